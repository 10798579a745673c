/- Texts joined into one: the walks and laws that the last text leans on. Conditions: as each says. -/
import Derived.Test.YtekogcjdaolcbaaGreatDoorMFnWriterTextLawC
import Derived.Test.YtekogcjdaolcbaaGreatDoorGr
import Derived.Test.YtekogcjdaolcbaaGreatDoorLearn
import Derived.Test.YtekogcjdaolcbaaGreatDoorBa
import Derived.Test.YtekogcjdaolcbaaGreatDoorKV
import Derived.Test.YtekogcjdaolcbaaGreatDoorSets
import Derived.Test.YtekogcjdaolcbaaGreatDoorLz2
import Derived.Test.YtekogcjdaolcbaaGreatDoorAfter

set_option linter.unusedVariables false
set_option linter.unusedSimpArgs false
/- Plain: following the codes of the longest words gives the data again, and one width for each code. Conditions: what is known is valid (KnD.Ok), the data fits. -/
namespace Go.Proofs.YtekogcjdaolcbaaGreatDoor
open Go.RowKit
theorem KnD.fol_ne {k : KnD} (h : k.Ok) {x : Int} (hf : k.follows x = true) : x ≠ (k.c : Int) ∧ x ≠ (k.c : Int) + 1 := by
  rcases KnD.follows_cases h hf with hc | ⟨hg, rfl, hl⟩
  · rw [codeOk_iff] at hc; omega
  · unfold KnD.next; omega
theorem walk_greedyN : ∀ (n : Nat) (k : KnD) (d : List UInt8) (ws : List Int) (dat : List UInt8), k.Ok → (∀ b ∈ d, b.toNat < k.c) → d.length ≤ n → dat.length + d.length ≤ 2000 →
    ∃ W : List Int, walkN k (greedyN n k d) ws dat = ⟨ws ++ W, dat ++ d, true⟩ ∧ W.length = (greedyN n k d).length ∧ (∀ w ∈ W, 1 ≤ w ∧ w ≤ 10) ∧ (∀ x ∈ greedyN n k d, 0 ≤ x ∧ x ≤ 1024) := by
  intro n
  induction n with
  | zero =>
    intro k d ws dat hk hl hn hd
    have hb := hk.c_bd
    have hw := KnD.width_bd hk
    have e : d = [] := List.length_eq_zero_iff.1 (by omega)
    subst e
    refine ⟨[(k.width : Int)], ?_, rfl, ?_, ?_⟩
    · show walkN k [(k.c : Int) + 1] ws dat = _
      rw [walkN_end rfl]; simp
    · intro w hw'; simp only [List.mem_singleton] at hw'; subst hw'; omega
    · intro x hx; simp only [greedyN, List.mem_singleton] at hx; subst hx; omega
  | succ n ih =>
    intro k d ws dat hk hl hn hd
    have hb := hk.c_bd
    have hw := KnD.width_bd hk
    by_cases e : d = []
    · subst e
      rw [greedyN_nil]
      refine ⟨[(k.width : Int)], ?_, rfl, ?_, ?_⟩
      · rw [walkN_end rfl]; simp
      · intro w hw'; simp only [List.mem_singleton] at hw'; subst hw'; omega
      · intro x hx; simp only [List.mem_singleton] at hx; subst hx; omega
    · obtain ⟨hf, ha⟩ := KnD.find_any hk e hl
      have hfb := KnD.find_bd hk hf
      obtain ⟨n1, n2⟩ := KnD.fol_ne hk hf
      have hp := KnD.longest_pos (k := k) e
      have hle := KnD.longest_le (k := k) d
      have htk := KnD.longest_take (k := k) d
      have hok2 := KnD.after_ok hk hf
      have hjoin : k.longest d ++ d.drop (k.longest d).length = d := by conv => lhs; arg 1; rw [← htk]
                                                                        exact List.take_append_drop _ _
      have hl2 : ∀ b ∈ d.drop (k.longest d).length, b.toNat < k.c := fun b hb => hl b (List.mem_of_mem_drop hb)
      have hln : (d.drop (k.longest d).length).length ≤ n := by rw [List.length_drop]; omega
      have hd2 : (dat ++ k.longest d).length + (d.drop (k.longest d).length).length ≤ 2000 := by rw [List.length_drop, List.length_append]; omega
      by_cases hfull : (k.after (k.find (k.longest d))).full = true ∧ d.drop (k.longest d).length ≠ []
      · rw [greedyN_full e rfl rfl hfull.1 hfull.2]
        obtain ⟨W, h1, h2, h3, h4⟩ := ih (k.after (k.find (k.longest d))).cleared (d.drop (k.longest d).length) (ws ++ [(k.width : Int)] ++ [((k.after (k.find (k.longest d))).width : Int)]) (dat ++ k.longest d) (KnD.cleared_ok hok2) hl2 hln hd2
        have hw2 := KnD.width_bd hok2
        refine ⟨(k.width : Int) :: ((k.after (k.find (k.longest d))).width : Int) :: W, ?_, by simp [h2], ?_, ?_⟩
        · rw [walkN_word n2 n1 hf (by omega), ha, walkN_clear (k := k.after (k.find (k.longest d))) (x := (k.c : Int)) rfl, h1]
          simp [hjoin]
        · intro w hw'
          simp only [List.mem_cons] at hw'
          rcases hw' with rfl | rfl | hw'
          · omega
          · omega
          · exact h3 w hw'
        · intro x hx
          simp only [List.mem_cons] at hx
          rcases hx with rfl | rfl | hx
          · omega
          · omega
          · exact h4 x hx
      · rw [greedyN_more e rfl rfl hfull]
        obtain ⟨W, h1, h2, h3, h4⟩ := ih (k.after (k.find (k.longest d))) (d.drop (k.longest d).length) (ws ++ [(k.width : Int)]) (dat ++ k.longest d) hok2 hl2 hln hd2
        refine ⟨(k.width : Int) :: W, ?_, by simp [h2], ?_, ?_⟩
        · rw [walkN_word n2 n1 hf (by omega), ha, h1]
          simp [hjoin]
        · intro w hw'
          simp only [List.mem_cons] at hw'
          rcases hw' with rfl | hw'
          · omega
          · exact h3 w hw'
        · intro x hx
          simp only [List.mem_cons] at hx
          rcases hx with rfl | hx
          · omega
          · exact h4 x hx
theorem walk_greedy {k : KnD} {d : List UInt8} (hk : k.Ok) (hl : ∀ b ∈ d, b.toNat < k.c) (hd : d.length ≤ 2000) :
    (walkN k (greedy k d) [] []).ws.length = (greedy k d).length ∧ (walkN k (greedy k d) [] []).data = d ∧ (walkN k (greedy k d) [] []).ok = true ∧ (∀ w ∈ (walkN k (greedy k d) [] []).ws, 1 ≤ w ∧ w ≤ 10) ∧ (∀ x ∈ greedy k d, 0 ≤ x ∧ x ≤ 1024) := by
  obtain ⟨W, h1, h2, h3, h4⟩ := walk_greedyN d.length k.cleared d [(k.width : Int)] [] (KnD.cleared_ok hk) hl (Nat.le_refl _) (by simpa using hd)
  have hb := hk.c_bd
  have hw := KnD.width_bd hk
  have e : walkN k (greedy k d) [] [] = ⟨[(k.width : Int)] ++ W, [] ++ d, true⟩ := by
    unfold greedy
    rw [walkN_clear rfl, List.nil_append, h1]
  rw [e]
  refine ⟨by simp [greedy, h2], rfl, rfl, fun w hw' => ?_, fun x hx => ?_⟩
  · simp only [List.cons_append, List.nil_append, List.mem_cons] at hw'
    rcases hw' with rfl | hw'
    · omega
    · exact h3 w hw'
  · unfold greedy at hx
    simp only [List.mem_cons] at hx
    rcases hx with rfl | hx
    · omega
    · exact h4 x hx
end Go.Proofs.YtekogcjdaolcbaaGreatDoor

/- Walks of the reference's LearnKnown and StartWith. Conditions: as each says. -/
namespace Go.Proofs.YtekogcjdaolcbaaGreatDoor
open Go Go.RowKit
theorem fitsB_lits {s : SetD} {d : List UInt8} (h : fitsB s d = true) : setOk s = true ∧ d.length ≤ 2000 ∧ ∀ b ∈ d, b.toNat < clr s := by
  unfold fitsB at h
  simp only [Bool.and_eq_true, decide_eq_true_eq] at h
  refine ⟨h.1.1, h.1.2, fun b hb => ?_⟩
  have := h.2
  unfold litsL at this
  rw [List.all_eq_true] at this
  simpa using this b hb
end Go.Proofs.YtekogcjdaolcbaaGreatDoor

/- Walks of the reference's l2Compress, Compress and CompressWith. Conditions: what is known is valid and can be read; for CompressWith none but the strings' bound. -/
namespace Go.Proofs.YtekogcjdaolcbaaGreatDoor
open Go Go.RowKit
def compL (k : KnD) (d : List UInt8) : List UInt8 := packL k.set.ord (packC k.set.ord (greedy k d) (walkN k (greedy k d) [] []).ws)
def compO (k : KnD) (d : List UInt8) : Option (List UInt8) := if fitsB k.set d then some (compL k d) else none
def compW (s : SetD) (dict d : List UInt8) : Option (List UInt8) := if fitsB s dict then compO (learnK (startK s) dict) d else none
end Go.Proofs.YtekogcjdaolcbaaGreatDoor

/- Walks of the reference's functions that make blocks and containers. Conditions: as each says; for the outer ones none but the strings' bound. -/
namespace Go.Proofs.YtekogcjdaolcbaaGreatDoor
open Go Go.RowKit
def blockD (s : SetD) (dict : List UInt8) (n : Int) (d : ByteArray) : BlkD := match compW s dict d.data.toList with
  | some st => if st.length < d.size then ⟨n, false, d.size, bs st⟩ else ⟨n, true, d.size, d⟩
  | none => ⟨n, true, d.size, d⟩
def textD (b : BlkD) : List UInt8 := (textB b.num b.raw b.size b.body).data.toList
def makeN (s : SetD) (dict : List UInt8) (size : Nat) : Nat → Int → List UInt8 → List UInt8
  | 0, _, _ => []
  | n + 1, f, d => if d = [] then [] else textD (blockD s dict f (bs (d.take size))) ++ makeN s dict size n (f + 1) (d.drop size)
theorem makeN_step {s : SetD} {dict : List UInt8} {size n : Nat} {f : Int} {d : List UInt8} (hd : d ≠ []) : makeN s dict size (n + 1) f d = textD (blockD s dict f (bs (d.take size))) ++ makeN s dict size n (f + 1) (d.drop size) := by rw [makeN, if_neg hd]
structure MkAt (T : List UInt8) (s : SetD) (dict : List UInt8) (size : Nat) (w : World) (m : Nat) (f : Int) (d acc : List UInt8) (n : Nat) (wr : World) : Prop where
  tot : acc ++ makeN s dict size n f d = T
  len : d.length ≤ n
  d2 : d.length ≤ 2000
  num : f = 40 - (m : Int)
  m40 : m ≤ 40
  fit : d.length ≤ m * size
  accl : acc.length + 74 * m ≤ 2960
  set : SetAt w.heap.size s.ord s.lit s.most wr
  up : Up w wr
theorem MkAt.step {T : List UInt8} {s : SetD} {dict : List UInt8} {size : Nat} {w : World} {m : Nat} {f : Int} {d acc : List UInt8} {n : Nat} {wr wq : World} (h : MkAt T s dict size w m f d acc n wr) (hd : d ≠ []) (hm : 1 ≤ m) (hn : 1 ≤ n) (hs : 1 ≤ size) (hu : Up wr wq)
    {td : List UInt8} (ht : td = textD (blockD s dict f (bs (d.take size)))) (htl : td.length ≤ 74) : MkAt T s dict size w (m - 1) (f + 1) (d.drop size) (acc ++ td) (n - 1) wq := by
  obtain ⟨m, rfl⟩ : ∃ m', m = m' + 1 := ⟨m - 1, by omega⟩
  obtain ⟨n, rfl⟩ : ∃ n', n = n' + 1 := ⟨n - 1, by omega⟩
  obtain ⟨h1, h2, h3, h4, h5, h6, h7, h8, h9⟩ := h
  have hl := List.length_pos_iff.2 hd
  refine ⟨?_, by rw [List.length_drop]; omega, by rw [List.length_drop]; omega, by omega, by omega, ?_, by rw [List.length_append]; omega, box_up hu h8, h9.trans hu⟩
  · rw [← h1, makeN_step hd, ht, List.append_assoc]; rfl
  · rw [Nat.succ_mul] at h6
    rw [List.length_drop]
    show _ ≤ m * size
    omega
end Go.Proofs.YtekogcjdaolcbaaGreatDoor

/- Walks of the reference's draws of dictionaries, settings and containers. Conditions: the reader is one (Rdr), its place is bounded; the setting is valid. -/
namespace Go.Proofs.YtekogcjdaolcbaaGreatDoor
open Go Go.RowKit
theorem ext_le (s : ByteArray) (i j : Nat) : (s.extract i j).size ≤ s.size := by
  rw [ByteArray.size_extract]; omega
theorem l1Data_as (m : Int) (n : Nat) (hm : m = n) (rb : Nat) (B : Value) (s : SetD) (w : World) (N : Nat) (h : Rdr rb B w N) (hN : N ≤ 1000000000) (hn : n ≤ 1000) (hs : setOk s = true) :
    Calls Tryz.prog 30  #[.pointer (some ⟨rb, 0, none⟩), setV s, .int .i64 m] w (Drawn rb B 3010 (IsStr n) w) := by subst hm; exact l1Data_any rb B s n w N h hN hn hs
theorem Rdr.least {rb : Nat} {B : Value} {w : World} {N : Nat} (h : Rdr rb B w N) : ∃ p, p ≤ N ∧ Rdr rb B w p ∧ Hid (∀ N', Rdr rb B w N' → p ≤ N') := by
  obtain ⟨⟨p, h1, h2⟩, h3⟩ := h
  refine ⟨p, h1, ⟨⟨p, Nat.le_refl _, h2⟩, h3⟩, fun N' h' => ?_⟩
  obtain ⟨⟨q, g1, g2⟩, _⟩ := h'
  rw [h2] at g2
  simp at g2
  omega
theorem RdUp.made {rb : Nat} {B : Value} {w w' : World} {p C M : Nat} (hm : Hid (∀ N', Rdr rb B w N' → p ≤ N')) (hg : w.grownBy w' (some rb)) (hr : Rdr rb B w' M) (hM : M ≤ p + C) : RdUp rb B C w w' :=
  ⟨hg, fun N' h' => hr.mono (by have := hm N' h'; omega)⟩
end Go.Proofs.YtekogcjdaolcbaaGreatDoor

/- Walk of the reference's l1Data: its bytes are literals of the setting. Conditions: the reader is one, its place is bounded; the setting is valid. (Printed by gen/ddb.py.) -/
namespace Go.Proofs.YtekogcjdaolcbaaGreatDoor
open Go Go.RowKit
def IsStrB (n c : Nat) (v : Value) : Prop := ∃ s : ByteArray, v = .string s ∧ s.size ≤ n ∧ ∀ b ∈ s.data.toList, b.toNat < c
def RelDb (rb : Nat) (B : Value) (n c cc : Nat) (w : World) (out i : Value) (wr : World) : Prop := ∃ (l : List UInt8) (k : Nat), i = .int .i64 k ∧ l.length + k ≤ n ∧ ownU wr (w.heap.size + 1) out l ∧ RdUp rb B (c + 3 * l.length) w wr ∧ ∀ b ∈ l, b.toNat < cc
theorem snoc_lt {l : List UInt8} {cc : Nat} {y : Int} (h : ∀ b ∈ l, b.toNat < cc) (h0 : 0 ≤ y) (h1 : y < cc) : ∀ b ∈ l ++ [UInt8.ofNat y.toNat], b.toNat < cc := by
  intro b hb
  rcases List.mem_append.1 hb with h2 | h2
  · exact h b h2
  · rw [List.mem_singleton.1 h2]
    have : (UInt8.ofNat y.toNat).toNat ≤ y.toNat := by simp; exact Nat.mod_le _ _
    omega
set_option maxRecDepth 100000 in
set_option maxHeartbeats 8000000 in
theorem l1DataB_any (rb : Nat) (B : Value) (s : SetD) (n : Nat) (w : World) (N : Nat) (h : Rdr rb B w N) (hN : N ≤ 1000000000) (hn : n ≤ 1000) (hs : setOk s = true) :
    Calls Tryz.prog 30  #[.pointer (some ⟨rb, 0, none⟩), setV s, .int .i64 n] w (Drawn rb B 3010 (IsStrB n (clr s)) w) := by
  obtain ⟨cc, hcc⟩ : ∃ cc, Hid (cc = clr s) := ⟨_, rfl⟩
  have hpcc : ((clr s : Nat) : Int) ≤ (cc : Int) := by rw [hcc.out]; exact Int.le_refl _
  rw [show IsStrB n (clr s) = IsStrB n cc from by rw [hcc.out]]
  obtain ⟨i0, hib, hz0, hz1, hz2⟩ := info_parts infoByte
  have hmk := make_u8 n (by omega)
  have hlt := h.lt
  have HR := Lib.hid h
  have hne0 : ¬ w.heap.size = rb := by omega
  have hne1 : ¬ w.heap.size + 1 = rb := by omega
  have hU := RdUp.refl rb B 0 w
  have e1 : w.heap.size < w.heap.size + 1 := by omega
  have e2 : w.heap.size < w.heap.size + 1 + 1 := by omega
  have e3 : w.heap.size + 1 < w.heap.size + 1 + 1 := by omega
  have cK := fun wx => l1Clear_any s wx hs
  obtain ⟨hcb1, hcb2, -, -⟩ := clr_bd hs
  simp only [setV] at *
  clear hs
  have ho0 : ownU ((w.alloc (.cells #[.int .i64 s.ord, .int .i64 s.lit, .int .i64 s.most] 24)).alloc (.cells (madeCells #[.int .u8 0] n) 5)) (w.heap.size + 1) (.slice (some ⟨w.heap.size + 1, 0, none⟩) 0 n) [] := by
    have h0 := own_made0 (w := w.alloc (.cells #[.int .i64 s.ord, .int .i64 s.lit, .int .i64 s.most] 24)) (base := w.heap.size + 1) (n := n) (by simp) (by unfold maxLen; omega)
    rwa [size_alloc] at h0
  go_enter Tryz.func30, Tryz.ntmps30
  go_wp2_with ((go_at_call 86; (with_reducible refine (cK _).mono ?_); rintro e w1 ⟨rfl, U1⟩; have B1 := bcell U1; have Z1 := U1.size; (try simp at Z1); (try rw [Nat.add_one_le_iff] at Z1)))
  have ho1 := ownsRow_up ho0 U1
  have x0 : w.heap.size < w1.heap.size := by omega
  have x1 : w.heap.size < w1.heap.size + 1 := by omega
  go_wp2_with ((go_at_call 85; ((with_reducible refine (num_at ([2, 3, ((clr s : Nat) : Int), 1]) HR.out hU (by intro c hU; (repeat (first | with_reducible assumption | refine RdUp.ups ?_ (by with_reducible assumption) | with_reducible refine RdUp.set ?_ (by first | exact Nat.le_refl _ | (simp only []; omega) | (simp; omega)) _ | with_reducible refine RdUp.alloc ?_ _ | with_reducible refine RdUp.drew ?_ | with_reducible exact RdUp.of (Up.refl _)))) (by omega) (by first | rfl | (simp; done) | fail) (by first | rfl | (simp; done) | fail) (by first | rfl | (simp; done) | fail) (by simp) (by simp) (by first | rfl | (simp; done) | fail)).mono ?_); rintro e w' ⟨i, rfl, hi, hU, U⟩; have D := gcell U.1; have Z := U.1.size; (try simp at Z); (try have Y0 : w.heap.size < w'.heap.size := (by omega)); (try have Y1 : w.heap.size + 1 < w'.heap.size := (by omega)); (try have Y2 : w.heap.size + 1 + 1 < w'.heap.size := (by omega)); (try have X0 : w.heap.size < w'.heap.size + 1 := (by omega)); (try have X1 : w.heap.size + 1 < w'.heap.size + 1 := (by omega)); (try have X2 : w.heap.size + 1 + 1 < w'.heap.size + 1 := (by omega)); ((have hp1 : 1 ≤ i := (by simp at hi; omega)); (have hp2 : i ≤ 256 := (by simp at hi; omega)); clear hi))))
  have ho := own_rd (ho1.alloc _) (by omega) U.1
  refine (cK _).mono ?_
  rintro e w3 ⟨rfl, U3⟩
  have ho := ownsRow_up ho U3
  have hz3 := U3.size
  have hU := hU.ups U3
  clear D U Z Y0 X0 B1 Z1 U1 U3 ho1 ho0
  rcases Int.lt_or_le (clr s : Int) i with hle | hle
  · have hq1 : (1 : Int) ≤ (clr s : Int) := by omega
    have hq2 : (clr s : Int) ≤ 256 := by omega
    have hrb : rb < w.heap.size + 1 := by omega
    clear hcb1 hcb2
    generalize ((clr s : Nat) : Int) = part at *
    go_wp2_with (first | (go_at_call 31; ((with_reducible refine (pick_at (n := 7) HR.out hU (by intro c hU; (repeat (first | with_reducible assumption | refine RdUp.ups ?_ (by with_reducible assumption) | with_reducible refine RdUp.set ?_ (by first | exact Nat.le_refl _ | (simp only []; omega) | (simp; omega)) _ | with_reducible refine RdUp.alloc ?_ _ | with_reducible refine RdUp.drew ?_ | with_reducible exact RdUp.of (Up.refl _)))) (by omega)).mono ?_); rintro e w' ⟨per, rfl, per0, per1, hU, U⟩; have D := gcell U.1; have Z := U.1.size; (try simp at Z); (try have Y0 : w.heap.size < w'.heap.size := (by omega)); (try have Y1 : w.heap.size + 1 < w'.heap.size := (by omega)); (try have Y2 : w.heap.size + 1 + 1 < w'.heap.size := (by omega)); (try have X0 : w.heap.size < w'.heap.size + 1 := (by omega)); (try have X1 : w.heap.size + 1 < w'.heap.size + 1 := (by omega)); (try have X2 : w.heap.size + 1 + 1 < w'.heap.size + 1 := (by omega)); (have ho := own_rd ho hrb U.1))) | (go_at_call 31; ((with_reducible refine (pick_at (n := 4) HR.out hU (by intro c hU; (repeat (first | with_reducible assumption | refine RdUp.ups ?_ (by with_reducible assumption) | with_reducible refine RdUp.set ?_ (by first | exact Nat.le_refl _ | (simp only []; omega) | (simp; omega)) _ | with_reducible refine RdUp.alloc ?_ _ | with_reducible refine RdUp.drew ?_ | with_reducible exact RdUp.of (Up.refl _)))) (by omega)).mono ?_); rintro e w' ⟨mode, rfl, mode0, mode1, hU, U⟩; have D := gcell U.1; have Z := U.1.size; (try simp at Z); (try have Y0 : w.heap.size < w'.heap.size := (by omega)); (try have Y1 : w.heap.size + 1 < w'.heap.size := (by omega)); (try have Y2 : w.heap.size + 1 + 1 < w'.heap.size := (by omega)); (try have X0 : w.heap.size < w'.heap.size + 1 := (by omega)); (try have X1 : w.heap.size + 1 < w'.heap.size + 1 := (by omega)); (try have X2 : w.heap.size + 1 + 1 < w'.heap.size + 1 := (by omega)); (have ho := own_rd ho hrb U.1))) | (go_at_call 31; ((with_reducible refine (pick_at (n := (n : Int) + 1) HR.out hU (by intro c hU; (repeat (first | with_reducible assumption | refine RdUp.ups ?_ (by with_reducible assumption) | with_reducible refine RdUp.set ?_ (by first | exact Nat.le_refl _ | (simp only []; omega) | (simp; omega)) _ | with_reducible refine RdUp.alloc ?_ _ | with_reducible refine RdUp.drew ?_ | with_reducible exact RdUp.of (Up.refl _)))) (by omega)).mono ?_); rintro e w' ⟨kk, rfl, kk0, kk1, hU, U⟩; have D := gcell U.1; have Z := U.1.size; (try simp at Z); (try have Y0 : w.heap.size < w'.heap.size := (by omega)); (try have Y1 : w.heap.size + 1 < w'.heap.size := (by omega)); (try have Y2 : w.heap.size + 1 + 1 < w'.heap.size := (by omega)); (try have X0 : w.heap.size < w'.heap.size + 1 := (by omega)); (try have X1 : w.heap.size + 1 < w'.heap.size + 1 := (by omega)); (try have X2 : w.heap.size + 1 + 1 < w'.heap.size + 1 := (by omega)); (have ho := own_rd ho hrb U.1))))
    obtain ⟨k, rfl⟩ := Int.eq_ofNat_of_zero_le kk0
    have hU1 := hU
    obtain ⟨pn, hpn⟩ := Int.eq_ofNat_of_zero_le (by omega : 0 ≤ 1 + per)
    rw [hpn]
    have hpn1 : 1 ≤ pn := by omega
    have hpn2 : pn ≤ 7 := by omega
    clear hpn per0 per1 D U Z Y0 X0 Y1 X1 Y2 X2
    go_loopw [7, 11] (fun out i wr => RelDb rb B n 4 cc w out i wr) (fun _ i _ => (intOf i).toNat)
    case atStart => exact ⟨[], k, rfl, by simp; omega, ho, hU1, fun b hb => by cases hb⟩
    case round =>
      clear ho hU1
      obtain ⟨l, k, rfl, hlk, ho, hU, hall⟩ := hrel
      have HA := Lib.hid hall
      clear hall
      have hwz := hU.1.size
      have hll : l.length ≤ 1000 := by omega
      by_cases hk : 0 < k
      · rcases (by omega : mode = 0 ∨ mode = 1 ∨ 2 ≤ mode) with rfl | rfl | hmo
        · rcases Nat.eq_zero_or_pos l.length with hl | hl
          · have hl0 : ¬ (0 : Int) < (l.length : Int) := by omega
            obtain ⟨a, c, rfl⟩ := ownsRow_shape ho
            have HL := Lib.hid hl
            clear hl
            go_wp2_with (first | (go_at_call 31; ((with_reducible refine (pick_at (n := 256) HR.out hU (by intro c hU; (repeat (first | with_reducible assumption | refine RdUp.ups ?_ (by with_reducible assumption) | with_reducible refine RdUp.set ?_ (by first | exact Nat.le_refl _ | (simp only []; omega) | (simp; omega)) _ | with_reducible refine RdUp.alloc ?_ _ | with_reducible refine RdUp.drew ?_ | with_reducible exact RdUp.of (Up.refl _)))) (by omega)).mono ?_); rintro e w' ⟨x, rfl, x0, x1, hU, U⟩; have D := gcell U.1; have Z := U.1.size; (try simp at Z); (try have Y0 : w.heap.size < w'.heap.size := (by omega)); (try have Y1 : w.heap.size + 1 < w'.heap.size := (by omega)); (try have Y2 : w.heap.size + 1 + 1 < w'.heap.size := (by omega)); (try have X0 : w.heap.size < w'.heap.size + 1 := (by omega)); (try have X1 : w.heap.size + 1 < w'.heap.size + 1 := (by omega)); (try have X2 : w.heap.size + 1 + 1 < w'.heap.size + 1 := (by omega)); (have ho := own_rd ho hrb U.1; obtain ⟨hm0, hm1⟩ := mod_bd x part (by omega) (by omega)))) | (at_builtin; refine wpList_append_own _ rfl _ _ 22 rfl (w.heap.size + 1) 5 i0 (.int .u8 0) 1 1 Tryz.underlying22 hib hz0 hz1 hz2 rfl (by decide) _ _ _ rfl ((ho).alloc _) ⟨(w').heap.size, 0, none⟩ 1 1 [.int .u8 (x % part)] rfl rfl (new_cells [.int .u8 (x % part)] _ rfl) (by intro u hu; simp at hu; subst hu; rfl) (by unfold maxLen; omega) (by omega) (by simp; omega) ?_; rintro v2 w2 hown2 hgr2 -; have hsn := ownU_snocR hown2 (by omega) (by omega)))
            all_goals
              go_roundw
              case rel => exact ⟨_, k - 1, by go_num, by simp; omega, hsn, RdUp.mono ((hU.alloc _).gr hgr2 (fun y hy => by have := row_ge ho y hy; omega)) (by simp; omega), snoc_lt HA.out (by first | exact Int.emod_nonneg _ (by omega) | omega) (by first | omega | (have := Int.emod_lt_of_pos x (show 0 < part by omega); omega))⟩
              case measure => simp [intOf]; omega
          · obtain ⟨g, c, rfl, hg1, hg2, hcl⟩ := own_at ho hl
            obtain ⟨m, hm⟩ : ∃ m : Nat, ((l.length : Int) - 1 = (m : Int)) := ⟨l.length - 1, by omega⟩
            have hml : m < l.length := by omega
            have hml1 : (m : Int) < (l.length : Int) := by omega
            have hgr : ¬ g = rb := by omega
            have hx1 := hcl m hml
            have hb1 := u8_bd l[m]
            have hb0 : (0 : Int) ≤ (l[m].toNat : Int) := Int.natCast_nonneg _
            have hzc : (l[m].toNat : Int) < (cc : Int) := by have := HA.out l[m] (List.getElem_mem hml); omega
            generalize (l[m].toNat : Int) = z1 at *
            clear hcl
            go_wp2_with (first | (go_at_call 31; ((with_reducible refine (pick_at (n := 256) HR.out hU (by intro c hU; (repeat (first | with_reducible assumption | refine RdUp.ups ?_ (by with_reducible assumption) | with_reducible refine RdUp.set ?_ (by first | exact Nat.le_refl _ | (simp only []; omega) | (simp; omega)) _ | with_reducible refine RdUp.alloc ?_ _ | with_reducible refine RdUp.drew ?_ | with_reducible exact RdUp.of (Up.refl _)))) (by omega)).mono ?_); rintro e w' ⟨x, rfl, x0, x1, hU, U⟩; have D := gcell U.1; have Z := U.1.size; (try simp at Z); (try have Y0 : w.heap.size < w'.heap.size := (by omega)); (try have Y1 : w.heap.size + 1 < w'.heap.size := (by omega)); (try have Y2 : w.heap.size + 1 + 1 < w'.heap.size := (by omega)); (try have X0 : w.heap.size < w'.heap.size + 1 := (by omega)); (try have X1 : w.heap.size + 1 < w'.heap.size + 1 := (by omega)); (try have X2 : w.heap.size + 1 + 1 < w'.heap.size + 1 := (by omega)); (have ho := own_rd ho hrb U.1; have Yg : g < w'.heap.size := (by omega); obtain ⟨hm0, hm1⟩ := mod_bd x part (by omega) (by omega)))) | (go_at_call 31; ((with_reducible refine (pick_at (n := 4) HR.out hU (by intro c hU; (repeat (first | with_reducible assumption | refine RdUp.ups ?_ (by with_reducible assumption) | with_reducible refine RdUp.set ?_ (by first | exact Nat.le_refl _ | (simp only []; omega) | (simp; omega)) _ | with_reducible refine RdUp.alloc ?_ _ | with_reducible refine RdUp.drew ?_ | with_reducible exact RdUp.of (Up.refl _)))) (by omega)).mono ?_); rintro e w' ⟨y4, rfl, y40, y41, hU, U⟩; have D := gcell U.1; have Z := U.1.size; (try simp at Z); (try have Y0 : w.heap.size < w'.heap.size := (by omega)); (try have Y1 : w.heap.size + 1 < w'.heap.size := (by omega)); (try have Y2 : w.heap.size + 1 + 1 < w'.heap.size := (by omega)); (try have X0 : w.heap.size < w'.heap.size + 1 := (by omega)); (try have X1 : w.heap.size + 1 < w'.heap.size + 1 := (by omega)); (try have X2 : w.heap.size + 1 + 1 < w'.heap.size + 1 := (by omega)); (have ho := own_rd ho hrb U.1; have Yg : g < w'.heap.size := (by omega); skip))) | (at_builtin; refine wpList_append_own _ rfl _ _ 22 rfl (w.heap.size + 1) 5 i0 (.int .u8 0) 1 1 Tryz.underlying22 hib hz0 hz1 hz2 rfl (by decide) _ _ _ rfl ((ho).alloc _) ⟨(w').heap.size, 0, none⟩ 1 1 [.int .u8 (x % part)] rfl rfl (new_cells [.int .u8 (x % part)] _ rfl) (by intro u hu; simp at hu; subst hu; rfl) (by unfold maxLen; omega) (by omega) (by simp; omega) ?_; rintro v2 w2 hown2 hgr2 -; have hsn := ownU_snocR hown2 (by omega) (by omega)) | (at_builtin; refine wpList_append_own _ rfl _ _ 22 rfl (w.heap.size + 1) 5 i0 (.int .u8 0) 1 1 Tryz.underlying22 hib hz0 hz1 hz2 rfl (by decide) _ _ _ rfl ((ho).alloc _) ⟨(w').heap.size, 0, none⟩ 1 1 [.int .u8 z1] rfl rfl (new_cells [.int .u8 z1] _ rfl) (by intro u hu; simp at hu; subst hu; rfl) (by unfold maxLen; omega) (by omega) (by simp; omega) ?_; rintro v2 w2 hown2 hgr2 -; have hsn := ownU_snocR hown2 (by omega) (by omega)))
            all_goals
              go_roundw
              case rel => exact ⟨_, k - 1, by go_num, by simp; omega, hsn, RdUp.mono ((hU.alloc _).gr hgr2 (fun y hy => by have := row_ge ho y hy; omega)) (by simp; omega), snoc_lt HA.out (by first | exact Int.emod_nonneg _ (by omega) | omega) (by first | omega | (have := Int.emod_lt_of_pos x (show 0 < part by omega); omega))⟩
              case measure => simp [intOf]; omega
        · by_cases hp : pn ≤ l.length
          · obtain ⟨g, c, rfl, hg1, hg2, hcl⟩ := own_at ho (by omega)
            obtain ⟨m, hm⟩ : ∃ m : Nat, ((l.length : Int) - (pn : Int) = (m : Int)) := ⟨l.length - pn, by omega⟩
            have hml : m < l.length := by omega
            have hml1 : (m : Int) < (l.length : Int) := by omega
            have hgr : ¬ g = rb := by omega
            have hx1 := hcl m hml
            have hb1 := u8_bd l[m]
            have hb0 : (0 : Int) ≤ (l[m].toNat : Int) := Int.natCast_nonneg _
            have hzc : (l[m].toNat : Int) < (cc : Int) := by have := HA.out l[m] (List.getElem_mem hml); omega
            generalize (l[m].toNat : Int) = z1 at *
            clear hcl
            go_wp2_with (first | (go_at_call 31; ((with_reducible refine (pick_at (n := 256) HR.out hU (by intro c hU; (repeat (first | with_reducible assumption | refine RdUp.ups ?_ (by with_reducible assumption) | with_reducible refine RdUp.set ?_ (by first | exact Nat.le_refl _ | (simp only []; omega) | (simp; omega)) _ | with_reducible refine RdUp.alloc ?_ _ | with_reducible refine RdUp.drew ?_ | with_reducible exact RdUp.of (Up.refl _)))) (by omega)).mono ?_); rintro e w' ⟨x, rfl, x0, x1, hU, U⟩; have D := gcell U.1; have Z := U.1.size; (try simp at Z); (try have Y0 : w.heap.size < w'.heap.size := (by omega)); (try have Y1 : w.heap.size + 1 < w'.heap.size := (by omega)); (try have Y2 : w.heap.size + 1 + 1 < w'.heap.size := (by omega)); (try have X0 : w.heap.size < w'.heap.size + 1 := (by omega)); (try have X1 : w.heap.size + 1 < w'.heap.size + 1 := (by omega)); (try have X2 : w.heap.size + 1 + 1 < w'.heap.size + 1 := (by omega)); (have ho := own_rd ho hrb U.1; have Yg : g < w'.heap.size := (by omega); obtain ⟨hm0, hm1⟩ := mod_bd x part (by omega) (by omega)))) | (go_at_call 31; ((with_reducible refine (pick_at (n := 10) HR.out hU (by intro c hU; (repeat (first | with_reducible assumption | refine RdUp.ups ?_ (by with_reducible assumption) | with_reducible refine RdUp.set ?_ (by first | exact Nat.le_refl _ | (simp only []; omega) | (simp; omega)) _ | with_reducible refine RdUp.alloc ?_ _ | with_reducible refine RdUp.drew ?_ | with_reducible exact RdUp.of (Up.refl _)))) (by omega)).mono ?_); rintro e w' ⟨y10, rfl, y100, y101, hU, U⟩; have D := gcell U.1; have Z := U.1.size; (try simp at Z); (try have Y0 : w.heap.size < w'.heap.size := (by omega)); (try have Y1 : w.heap.size + 1 < w'.heap.size := (by omega)); (try have Y2 : w.heap.size + 1 + 1 < w'.heap.size := (by omega)); (try have X0 : w.heap.size < w'.heap.size + 1 := (by omega)); (try have X1 : w.heap.size + 1 < w'.heap.size + 1 := (by omega)); (try have X2 : w.heap.size + 1 + 1 < w'.heap.size + 1 := (by omega)); (have ho := own_rd ho hrb U.1; have Yg : g < w'.heap.size := (by omega); skip))) | (at_builtin; refine wpList_append_own _ rfl _ _ 22 rfl (w.heap.size + 1) 5 i0 (.int .u8 0) 1 1 Tryz.underlying22 hib hz0 hz1 hz2 rfl (by decide) _ _ _ rfl ((ho).alloc _) ⟨(w').heap.size, 0, none⟩ 1 1 [.int .u8 (x % part)] rfl rfl (new_cells [.int .u8 (x % part)] _ rfl) (by intro u hu; simp at hu; subst hu; rfl) (by unfold maxLen; omega) (by omega) (by simp; omega) ?_; rintro v2 w2 hown2 hgr2 -; have hsn := ownU_snocR hown2 (by omega) (by omega)) | (at_builtin; refine wpList_append_own _ rfl _ _ 22 rfl (w.heap.size + 1) 5 i0 (.int .u8 0) 1 1 Tryz.underlying22 hib hz0 hz1 hz2 rfl (by decide) _ _ _ rfl ((ho).alloc _) ⟨(w').heap.size, 0, none⟩ 1 1 [.int .u8 z1] rfl rfl (new_cells [.int .u8 z1] _ rfl) (by intro u hu; simp at hu; subst hu; rfl) (by unfold maxLen; omega) (by omega) (by simp; omega) ?_; rintro v2 w2 hown2 hgr2 -; have hsn := ownU_snocR hown2 (by omega) (by omega)))
            all_goals
              go_roundw
              case rel => exact ⟨_, k - 1, by go_num, by simp; omega, hsn, RdUp.mono ((hU.alloc _).gr hgr2 (fun y hy => by have := row_ge ho y hy; omega)) (by simp; omega), snoc_lt HA.out (by first | exact Int.emod_nonneg _ (by omega) | omega) (by first | omega | (have := Int.emod_lt_of_pos x (show 0 < part by omega); omega))⟩
              case measure => simp [intOf]; omega
          · obtain ⟨a, c, rfl⟩ := ownsRow_shape ho
            go_wp2_with (first | (go_at_call 31; ((with_reducible refine (pick_at (n := 256) HR.out hU (by intro c hU; (repeat (first | with_reducible assumption | refine RdUp.ups ?_ (by with_reducible assumption) | with_reducible refine RdUp.set ?_ (by first | exact Nat.le_refl _ | (simp only []; omega) | (simp; omega)) _ | with_reducible refine RdUp.alloc ?_ _ | with_reducible refine RdUp.drew ?_ | with_reducible exact RdUp.of (Up.refl _)))) (by omega)).mono ?_); rintro e w' ⟨x, rfl, x0, x1, hU, U⟩; have D := gcell U.1; have Z := U.1.size; (try simp at Z); (try have Y0 : w.heap.size < w'.heap.size := (by omega)); (try have Y1 : w.heap.size + 1 < w'.heap.size := (by omega)); (try have Y2 : w.heap.size + 1 + 1 < w'.heap.size := (by omega)); (try have X0 : w.heap.size < w'.heap.size + 1 := (by omega)); (try have X1 : w.heap.size + 1 < w'.heap.size + 1 := (by omega)); (try have X2 : w.heap.size + 1 + 1 < w'.heap.size + 1 := (by omega)); (have ho := own_rd ho hrb U.1; obtain ⟨hm0, hm1⟩ := mod_bd x part (by omega) (by omega)))) | (at_builtin; refine wpList_append_own _ rfl _ _ 22 rfl (w.heap.size + 1) 5 i0 (.int .u8 0) 1 1 Tryz.underlying22 hib hz0 hz1 hz2 rfl (by decide) _ _ _ rfl ((ho).alloc _) ⟨(w').heap.size, 0, none⟩ 1 1 [.int .u8 (x % part)] rfl rfl (new_cells [.int .u8 (x % part)] _ rfl) (by intro u hu; simp at hu; subst hu; rfl) (by unfold maxLen; omega) (by omega) (by simp; omega) ?_; rintro v2 w2 hown2 hgr2 -; have hsn := ownU_snocR hown2 (by omega) (by omega)))
            all_goals
              go_roundw
              case rel => exact ⟨_, k - 1, by go_num, by simp; omega, hsn, RdUp.mono ((hU.alloc _).gr hgr2 (fun y hy => by have := row_ge ho y hy; omega)) (by simp; omega), snoc_lt HA.out (by first | exact Int.emod_nonneg _ (by omega) | omega) (by first | omega | (have := Int.emod_lt_of_pos x (show 0 < part by omega); omega))⟩
              case measure => simp [intOf]; omega
        · obtain ⟨a, c, rfl⟩ := ownsRow_shape ho
          go_wp2_with (first | (go_at_call 31; ((with_reducible refine (pick_at (n := 256) HR.out hU (by intro c hU; (repeat (first | with_reducible assumption | refine RdUp.ups ?_ (by with_reducible assumption) | with_reducible refine RdUp.set ?_ (by first | exact Nat.le_refl _ | (simp only []; omega) | (simp; omega)) _ | with_reducible refine RdUp.alloc ?_ _ | with_reducible refine RdUp.drew ?_ | with_reducible exact RdUp.of (Up.refl _)))) (by omega)).mono ?_); rintro e w' ⟨x, rfl, x0, x1, hU, U⟩; have D := gcell U.1; have Z := U.1.size; (try simp at Z); (try have Y0 : w.heap.size < w'.heap.size := (by omega)); (try have Y1 : w.heap.size + 1 < w'.heap.size := (by omega)); (try have Y2 : w.heap.size + 1 + 1 < w'.heap.size := (by omega)); (try have X0 : w.heap.size < w'.heap.size + 1 := (by omega)); (try have X1 : w.heap.size + 1 < w'.heap.size + 1 := (by omega)); (try have X2 : w.heap.size + 1 + 1 < w'.heap.size + 1 := (by omega)); (have ho := own_rd ho hrb U.1; obtain ⟨hm0, hm1⟩ := mod_bd x part (by omega) (by omega)))) | (at_builtin; refine wpList_append_own _ rfl _ _ 22 rfl (w.heap.size + 1) 5 i0 (.int .u8 0) 1 1 Tryz.underlying22 hib hz0 hz1 hz2 rfl (by decide) _ _ _ rfl ((ho).alloc _) ⟨(w').heap.size, 0, none⟩ 1 1 [.int .u8 (x % part)] rfl rfl (new_cells [.int .u8 (x % part)] _ rfl) (by intro u hu; simp at hu; subst hu; rfl) (by unfold maxLen; omega) (by omega) (by simp; omega) ?_; rintro v2 w2 hown2 hgr2 -; have hsn := ownU_snocR hown2 (by omega) (by omega)))
          all_goals
            go_roundw
            case rel => exact ⟨_, k - 1, by go_num, by simp; omega, hsn, RdUp.mono ((hU.alloc _).gr hgr2 (fun y hy => by have := row_ge ho y hy; omega)) (by simp; omega), snoc_lt HA.out (by first | exact Int.emod_nonneg _ (by omega) | omega) (by first | omega | (have := Int.emod_lt_of_pos x (show 0 < part by omega); omega))⟩
            case measure => simp [intOf]; omega
      · obtain ⟨a, c, rfl⟩ := ownsRow_shape ho
        have cv := conv_any ho rfl
        clear ho
        go_wp2
        go_ret
        refine ⟨_, rfl, ⟨_, rfl, by rw [bs_size]; omega, by rw [bs_data]; exact HA.out⟩, ?_⟩
        exact RdUp.fin hU (by intro c hU; (repeat (first | with_reducible assumption | refine RdUp.ups ?_ (by with_reducible assumption) | with_reducible refine RdUp.set ?_ (by first | exact Nat.le_refl _ | (simp only []; omega) | (simp; omega)) _ | with_reducible refine RdUp.alloc ?_ _ | with_reducible refine RdUp.drew ?_ | with_reducible exact RdUp.of (Up.refl _)))) (by omega)
  · have hpc : i ≤ (cc : Int) := by omega
    clear hpcc
    obtain ⟨part, rfl⟩ : ∃ p : Int, p = i := ⟨_, rfl⟩
    have hrb : rb < w.heap.size + 1 := by omega
    go_wp2_with (first | (go_at_call 31; ((with_reducible refine (pick_at (n := 7) HR.out hU (by intro c hU; (repeat (first | with_reducible assumption | refine RdUp.ups ?_ (by with_reducible assumption) | with_reducible refine RdUp.set ?_ (by first | exact Nat.le_refl _ | (simp only []; omega) | (simp; omega)) _ | with_reducible refine RdUp.alloc ?_ _ | with_reducible refine RdUp.drew ?_ | with_reducible exact RdUp.of (Up.refl _)))) (by omega)).mono ?_); rintro e w' ⟨per, rfl, per0, per1, hU, U⟩; have D := gcell U.1; have Z := U.1.size; (try simp at Z); (try have Y0 : w.heap.size < w'.heap.size := (by omega)); (try have Y1 : w.heap.size + 1 < w'.heap.size := (by omega)); (try have Y2 : w.heap.size + 1 + 1 < w'.heap.size := (by omega)); (try have X0 : w.heap.size < w'.heap.size + 1 := (by omega)); (try have X1 : w.heap.size + 1 < w'.heap.size + 1 := (by omega)); (try have X2 : w.heap.size + 1 + 1 < w'.heap.size + 1 := (by omega)); (have ho := own_rd ho hrb U.1))) | (go_at_call 31; ((with_reducible refine (pick_at (n := 4) HR.out hU (by intro c hU; (repeat (first | with_reducible assumption | refine RdUp.ups ?_ (by with_reducible assumption) | with_reducible refine RdUp.set ?_ (by first | exact Nat.le_refl _ | (simp only []; omega) | (simp; omega)) _ | with_reducible refine RdUp.alloc ?_ _ | with_reducible refine RdUp.drew ?_ | with_reducible exact RdUp.of (Up.refl _)))) (by omega)).mono ?_); rintro e w' ⟨mode, rfl, mode0, mode1, hU, U⟩; have D := gcell U.1; have Z := U.1.size; (try simp at Z); (try have Y0 : w.heap.size < w'.heap.size := (by omega)); (try have Y1 : w.heap.size + 1 < w'.heap.size := (by omega)); (try have Y2 : w.heap.size + 1 + 1 < w'.heap.size := (by omega)); (try have X0 : w.heap.size < w'.heap.size + 1 := (by omega)); (try have X1 : w.heap.size + 1 < w'.heap.size + 1 := (by omega)); (try have X2 : w.heap.size + 1 + 1 < w'.heap.size + 1 := (by omega)); (have ho := own_rd ho hrb U.1))) | (go_at_call 31; ((with_reducible refine (pick_at (n := (n : Int) + 1) HR.out hU (by intro c hU; (repeat (first | with_reducible assumption | refine RdUp.ups ?_ (by with_reducible assumption) | with_reducible refine RdUp.set ?_ (by first | exact Nat.le_refl _ | (simp only []; omega) | (simp; omega)) _ | with_reducible refine RdUp.alloc ?_ _ | with_reducible refine RdUp.drew ?_ | with_reducible exact RdUp.of (Up.refl _)))) (by omega)).mono ?_); rintro e w' ⟨kk, rfl, kk0, kk1, hU, U⟩; have D := gcell U.1; have Z := U.1.size; (try simp at Z); (try have Y0 : w.heap.size < w'.heap.size := (by omega)); (try have Y1 : w.heap.size + 1 < w'.heap.size := (by omega)); (try have Y2 : w.heap.size + 1 + 1 < w'.heap.size := (by omega)); (try have X0 : w.heap.size < w'.heap.size + 1 := (by omega)); (try have X1 : w.heap.size + 1 < w'.heap.size + 1 := (by omega)); (try have X2 : w.heap.size + 1 + 1 < w'.heap.size + 1 := (by omega)); (have ho := own_rd ho hrb U.1))))
    obtain ⟨k, rfl⟩ := Int.eq_ofNat_of_zero_le kk0
    have hU1 := hU
    obtain ⟨pn, hpn⟩ := Int.eq_ofNat_of_zero_le (by omega : 0 ≤ 1 + per)
    rw [hpn]
    have hpn1 : 1 ≤ pn := by omega
    have hpn2 : pn ≤ 7 := by omega
    clear hpn per0 per1 D U Z Y0 X0 Y1 X1 Y2 X2
    go_loopw [7, 11] (fun out i wr => RelDb rb B n 4 cc w out i wr) (fun _ i _ => (intOf i).toNat)
    case atStart => exact ⟨[], k, rfl, by simp; omega, ho, hU1, fun b hb => by cases hb⟩
    case round =>
      clear ho hU1
      obtain ⟨l, k, rfl, hlk, ho, hU, hall⟩ := hrel
      have HA := Lib.hid hall
      clear hall
      have hwz := hU.1.size
      have hll : l.length ≤ 1000 := by omega
      by_cases hk : 0 < k
      · rcases (by omega : mode = 0 ∨ mode = 1 ∨ 2 ≤ mode) with rfl | rfl | hmo
        · rcases Nat.eq_zero_or_pos l.length with hl | hl
          · have hl0 : ¬ (0 : Int) < (l.length : Int) := by omega
            obtain ⟨a, c, rfl⟩ := ownsRow_shape ho
            have HL := Lib.hid hl
            clear hl
            go_wp2_with (first | (go_at_call 31; ((with_reducible refine (pick_at (n := 256) HR.out hU (by intro c hU; (repeat (first | with_reducible assumption | refine RdUp.ups ?_ (by with_reducible assumption) | with_reducible refine RdUp.set ?_ (by first | exact Nat.le_refl _ | (simp only []; omega) | (simp; omega)) _ | with_reducible refine RdUp.alloc ?_ _ | with_reducible refine RdUp.drew ?_ | with_reducible exact RdUp.of (Up.refl _)))) (by omega)).mono ?_); rintro e w' ⟨x, rfl, x0, x1, hU, U⟩; have D := gcell U.1; have Z := U.1.size; (try simp at Z); (try have Y0 : w.heap.size < w'.heap.size := (by omega)); (try have Y1 : w.heap.size + 1 < w'.heap.size := (by omega)); (try have Y2 : w.heap.size + 1 + 1 < w'.heap.size := (by omega)); (try have X0 : w.heap.size < w'.heap.size + 1 := (by omega)); (try have X1 : w.heap.size + 1 < w'.heap.size + 1 := (by omega)); (try have X2 : w.heap.size + 1 + 1 < w'.heap.size + 1 := (by omega)); (have ho := own_rd ho hrb U.1; obtain ⟨hm0, hm1⟩ := mod_bd x part (by omega) (by omega)))) | (at_builtin; refine wpList_append_own _ rfl _ _ 22 rfl (w.heap.size + 1) 5 i0 (.int .u8 0) 1 1 Tryz.underlying22 hib hz0 hz1 hz2 rfl (by decide) _ _ _ rfl ((ho).alloc _) ⟨(w').heap.size, 0, none⟩ 1 1 [.int .u8 (x % part)] rfl rfl (new_cells [.int .u8 (x % part)] _ rfl) (by intro u hu; simp at hu; subst hu; rfl) (by unfold maxLen; omega) (by omega) (by simp; omega) ?_; rintro v2 w2 hown2 hgr2 -; have hsn := ownU_snocR hown2 (by omega) (by omega)))
            all_goals
              go_roundw
              case rel => exact ⟨_, k - 1, by go_num, by simp; omega, hsn, RdUp.mono ((hU.alloc _).gr hgr2 (fun y hy => by have := row_ge ho y hy; omega)) (by simp; omega), snoc_lt HA.out (by first | exact Int.emod_nonneg _ (by omega) | omega) (by first | omega | (have := Int.emod_lt_of_pos x (show 0 < part by omega); omega))⟩
              case measure => simp [intOf]; omega
          · obtain ⟨g, c, rfl, hg1, hg2, hcl⟩ := own_at ho hl
            obtain ⟨m, hm⟩ : ∃ m : Nat, ((l.length : Int) - 1 = (m : Int)) := ⟨l.length - 1, by omega⟩
            have hml : m < l.length := by omega
            have hml1 : (m : Int) < (l.length : Int) := by omega
            have hgr : ¬ g = rb := by omega
            have hx1 := hcl m hml
            have hb1 := u8_bd l[m]
            have hb0 : (0 : Int) ≤ (l[m].toNat : Int) := Int.natCast_nonneg _
            have hzc : (l[m].toNat : Int) < (cc : Int) := by have := HA.out l[m] (List.getElem_mem hml); omega
            generalize (l[m].toNat : Int) = z1 at *
            clear hcl
            go_wp2_with (first | (go_at_call 31; ((with_reducible refine (pick_at (n := 256) HR.out hU (by intro c hU; (repeat (first | with_reducible assumption | refine RdUp.ups ?_ (by with_reducible assumption) | with_reducible refine RdUp.set ?_ (by first | exact Nat.le_refl _ | (simp only []; omega) | (simp; omega)) _ | with_reducible refine RdUp.alloc ?_ _ | with_reducible refine RdUp.drew ?_ | with_reducible exact RdUp.of (Up.refl _)))) (by omega)).mono ?_); rintro e w' ⟨x, rfl, x0, x1, hU, U⟩; have D := gcell U.1; have Z := U.1.size; (try simp at Z); (try have Y0 : w.heap.size < w'.heap.size := (by omega)); (try have Y1 : w.heap.size + 1 < w'.heap.size := (by omega)); (try have Y2 : w.heap.size + 1 + 1 < w'.heap.size := (by omega)); (try have X0 : w.heap.size < w'.heap.size + 1 := (by omega)); (try have X1 : w.heap.size + 1 < w'.heap.size + 1 := (by omega)); (try have X2 : w.heap.size + 1 + 1 < w'.heap.size + 1 := (by omega)); (have ho := own_rd ho hrb U.1; have Yg : g < w'.heap.size := (by omega); obtain ⟨hm0, hm1⟩ := mod_bd x part (by omega) (by omega)))) | (go_at_call 31; ((with_reducible refine (pick_at (n := 4) HR.out hU (by intro c hU; (repeat (first | with_reducible assumption | refine RdUp.ups ?_ (by with_reducible assumption) | with_reducible refine RdUp.set ?_ (by first | exact Nat.le_refl _ | (simp only []; omega) | (simp; omega)) _ | with_reducible refine RdUp.alloc ?_ _ | with_reducible refine RdUp.drew ?_ | with_reducible exact RdUp.of (Up.refl _)))) (by omega)).mono ?_); rintro e w' ⟨y4, rfl, y40, y41, hU, U⟩; have D := gcell U.1; have Z := U.1.size; (try simp at Z); (try have Y0 : w.heap.size < w'.heap.size := (by omega)); (try have Y1 : w.heap.size + 1 < w'.heap.size := (by omega)); (try have Y2 : w.heap.size + 1 + 1 < w'.heap.size := (by omega)); (try have X0 : w.heap.size < w'.heap.size + 1 := (by omega)); (try have X1 : w.heap.size + 1 < w'.heap.size + 1 := (by omega)); (try have X2 : w.heap.size + 1 + 1 < w'.heap.size + 1 := (by omega)); (have ho := own_rd ho hrb U.1; have Yg : g < w'.heap.size := (by omega); skip))) | (at_builtin; refine wpList_append_own _ rfl _ _ 22 rfl (w.heap.size + 1) 5 i0 (.int .u8 0) 1 1 Tryz.underlying22 hib hz0 hz1 hz2 rfl (by decide) _ _ _ rfl ((ho).alloc _) ⟨(w').heap.size, 0, none⟩ 1 1 [.int .u8 (x % part)] rfl rfl (new_cells [.int .u8 (x % part)] _ rfl) (by intro u hu; simp at hu; subst hu; rfl) (by unfold maxLen; omega) (by omega) (by simp; omega) ?_; rintro v2 w2 hown2 hgr2 -; have hsn := ownU_snocR hown2 (by omega) (by omega)) | (at_builtin; refine wpList_append_own _ rfl _ _ 22 rfl (w.heap.size + 1) 5 i0 (.int .u8 0) 1 1 Tryz.underlying22 hib hz0 hz1 hz2 rfl (by decide) _ _ _ rfl ((ho).alloc _) ⟨(w').heap.size, 0, none⟩ 1 1 [.int .u8 z1] rfl rfl (new_cells [.int .u8 z1] _ rfl) (by intro u hu; simp at hu; subst hu; rfl) (by unfold maxLen; omega) (by omega) (by simp; omega) ?_; rintro v2 w2 hown2 hgr2 -; have hsn := ownU_snocR hown2 (by omega) (by omega)))
            all_goals
              go_roundw
              case rel => exact ⟨_, k - 1, by go_num, by simp; omega, hsn, RdUp.mono ((hU.alloc _).gr hgr2 (fun y hy => by have := row_ge ho y hy; omega)) (by simp; omega), snoc_lt HA.out (by first | exact Int.emod_nonneg _ (by omega) | omega) (by first | omega | (have := Int.emod_lt_of_pos x (show 0 < part by omega); omega))⟩
              case measure => simp [intOf]; omega
        · by_cases hp : pn ≤ l.length
          · obtain ⟨g, c, rfl, hg1, hg2, hcl⟩ := own_at ho (by omega)
            obtain ⟨m, hm⟩ : ∃ m : Nat, ((l.length : Int) - (pn : Int) = (m : Int)) := ⟨l.length - pn, by omega⟩
            have hml : m < l.length := by omega
            have hml1 : (m : Int) < (l.length : Int) := by omega
            have hgr : ¬ g = rb := by omega
            have hx1 := hcl m hml
            have hb1 := u8_bd l[m]
            have hb0 : (0 : Int) ≤ (l[m].toNat : Int) := Int.natCast_nonneg _
            have hzc : (l[m].toNat : Int) < (cc : Int) := by have := HA.out l[m] (List.getElem_mem hml); omega
            generalize (l[m].toNat : Int) = z1 at *
            clear hcl
            go_wp2_with (first | (go_at_call 31; ((with_reducible refine (pick_at (n := 256) HR.out hU (by intro c hU; (repeat (first | with_reducible assumption | refine RdUp.ups ?_ (by with_reducible assumption) | with_reducible refine RdUp.set ?_ (by first | exact Nat.le_refl _ | (simp only []; omega) | (simp; omega)) _ | with_reducible refine RdUp.alloc ?_ _ | with_reducible refine RdUp.drew ?_ | with_reducible exact RdUp.of (Up.refl _)))) (by omega)).mono ?_); rintro e w' ⟨x, rfl, x0, x1, hU, U⟩; have D := gcell U.1; have Z := U.1.size; (try simp at Z); (try have Y0 : w.heap.size < w'.heap.size := (by omega)); (try have Y1 : w.heap.size + 1 < w'.heap.size := (by omega)); (try have Y2 : w.heap.size + 1 + 1 < w'.heap.size := (by omega)); (try have X0 : w.heap.size < w'.heap.size + 1 := (by omega)); (try have X1 : w.heap.size + 1 < w'.heap.size + 1 := (by omega)); (try have X2 : w.heap.size + 1 + 1 < w'.heap.size + 1 := (by omega)); (have ho := own_rd ho hrb U.1; have Yg : g < w'.heap.size := (by omega); obtain ⟨hm0, hm1⟩ := mod_bd x part (by omega) (by omega)))) | (go_at_call 31; ((with_reducible refine (pick_at (n := 10) HR.out hU (by intro c hU; (repeat (first | with_reducible assumption | refine RdUp.ups ?_ (by with_reducible assumption) | with_reducible refine RdUp.set ?_ (by first | exact Nat.le_refl _ | (simp only []; omega) | (simp; omega)) _ | with_reducible refine RdUp.alloc ?_ _ | with_reducible refine RdUp.drew ?_ | with_reducible exact RdUp.of (Up.refl _)))) (by omega)).mono ?_); rintro e w' ⟨y10, rfl, y100, y101, hU, U⟩; have D := gcell U.1; have Z := U.1.size; (try simp at Z); (try have Y0 : w.heap.size < w'.heap.size := (by omega)); (try have Y1 : w.heap.size + 1 < w'.heap.size := (by omega)); (try have Y2 : w.heap.size + 1 + 1 < w'.heap.size := (by omega)); (try have X0 : w.heap.size < w'.heap.size + 1 := (by omega)); (try have X1 : w.heap.size + 1 < w'.heap.size + 1 := (by omega)); (try have X2 : w.heap.size + 1 + 1 < w'.heap.size + 1 := (by omega)); (have ho := own_rd ho hrb U.1; have Yg : g < w'.heap.size := (by omega); skip))) | (at_builtin; refine wpList_append_own _ rfl _ _ 22 rfl (w.heap.size + 1) 5 i0 (.int .u8 0) 1 1 Tryz.underlying22 hib hz0 hz1 hz2 rfl (by decide) _ _ _ rfl ((ho).alloc _) ⟨(w').heap.size, 0, none⟩ 1 1 [.int .u8 (x % part)] rfl rfl (new_cells [.int .u8 (x % part)] _ rfl) (by intro u hu; simp at hu; subst hu; rfl) (by unfold maxLen; omega) (by omega) (by simp; omega) ?_; rintro v2 w2 hown2 hgr2 -; have hsn := ownU_snocR hown2 (by omega) (by omega)) | (at_builtin; refine wpList_append_own _ rfl _ _ 22 rfl (w.heap.size + 1) 5 i0 (.int .u8 0) 1 1 Tryz.underlying22 hib hz0 hz1 hz2 rfl (by decide) _ _ _ rfl ((ho).alloc _) ⟨(w').heap.size, 0, none⟩ 1 1 [.int .u8 z1] rfl rfl (new_cells [.int .u8 z1] _ rfl) (by intro u hu; simp at hu; subst hu; rfl) (by unfold maxLen; omega) (by omega) (by simp; omega) ?_; rintro v2 w2 hown2 hgr2 -; have hsn := ownU_snocR hown2 (by omega) (by omega)))
            all_goals
              go_roundw
              case rel => exact ⟨_, k - 1, by go_num, by simp; omega, hsn, RdUp.mono ((hU.alloc _).gr hgr2 (fun y hy => by have := row_ge ho y hy; omega)) (by simp; omega), snoc_lt HA.out (by first | exact Int.emod_nonneg _ (by omega) | omega) (by first | omega | (have := Int.emod_lt_of_pos x (show 0 < part by omega); omega))⟩
              case measure => simp [intOf]; omega
          · obtain ⟨a, c, rfl⟩ := ownsRow_shape ho
            go_wp2_with (first | (go_at_call 31; ((with_reducible refine (pick_at (n := 256) HR.out hU (by intro c hU; (repeat (first | with_reducible assumption | refine RdUp.ups ?_ (by with_reducible assumption) | with_reducible refine RdUp.set ?_ (by first | exact Nat.le_refl _ | (simp only []; omega) | (simp; omega)) _ | with_reducible refine RdUp.alloc ?_ _ | with_reducible refine RdUp.drew ?_ | with_reducible exact RdUp.of (Up.refl _)))) (by omega)).mono ?_); rintro e w' ⟨x, rfl, x0, x1, hU, U⟩; have D := gcell U.1; have Z := U.1.size; (try simp at Z); (try have Y0 : w.heap.size < w'.heap.size := (by omega)); (try have Y1 : w.heap.size + 1 < w'.heap.size := (by omega)); (try have Y2 : w.heap.size + 1 + 1 < w'.heap.size := (by omega)); (try have X0 : w.heap.size < w'.heap.size + 1 := (by omega)); (try have X1 : w.heap.size + 1 < w'.heap.size + 1 := (by omega)); (try have X2 : w.heap.size + 1 + 1 < w'.heap.size + 1 := (by omega)); (have ho := own_rd ho hrb U.1; obtain ⟨hm0, hm1⟩ := mod_bd x part (by omega) (by omega)))) | (at_builtin; refine wpList_append_own _ rfl _ _ 22 rfl (w.heap.size + 1) 5 i0 (.int .u8 0) 1 1 Tryz.underlying22 hib hz0 hz1 hz2 rfl (by decide) _ _ _ rfl ((ho).alloc _) ⟨(w').heap.size, 0, none⟩ 1 1 [.int .u8 (x % part)] rfl rfl (new_cells [.int .u8 (x % part)] _ rfl) (by intro u hu; simp at hu; subst hu; rfl) (by unfold maxLen; omega) (by omega) (by simp; omega) ?_; rintro v2 w2 hown2 hgr2 -; have hsn := ownU_snocR hown2 (by omega) (by omega)))
            all_goals
              go_roundw
              case rel => exact ⟨_, k - 1, by go_num, by simp; omega, hsn, RdUp.mono ((hU.alloc _).gr hgr2 (fun y hy => by have := row_ge ho y hy; omega)) (by simp; omega), snoc_lt HA.out (by first | exact Int.emod_nonneg _ (by omega) | omega) (by first | omega | (have := Int.emod_lt_of_pos x (show 0 < part by omega); omega))⟩
              case measure => simp [intOf]; omega
        · obtain ⟨a, c, rfl⟩ := ownsRow_shape ho
          go_wp2_with (first | (go_at_call 31; ((with_reducible refine (pick_at (n := 256) HR.out hU (by intro c hU; (repeat (first | with_reducible assumption | refine RdUp.ups ?_ (by with_reducible assumption) | with_reducible refine RdUp.set ?_ (by first | exact Nat.le_refl _ | (simp only []; omega) | (simp; omega)) _ | with_reducible refine RdUp.alloc ?_ _ | with_reducible refine RdUp.drew ?_ | with_reducible exact RdUp.of (Up.refl _)))) (by omega)).mono ?_); rintro e w' ⟨x, rfl, x0, x1, hU, U⟩; have D := gcell U.1; have Z := U.1.size; (try simp at Z); (try have Y0 : w.heap.size < w'.heap.size := (by omega)); (try have Y1 : w.heap.size + 1 < w'.heap.size := (by omega)); (try have Y2 : w.heap.size + 1 + 1 < w'.heap.size := (by omega)); (try have X0 : w.heap.size < w'.heap.size + 1 := (by omega)); (try have X1 : w.heap.size + 1 < w'.heap.size + 1 := (by omega)); (try have X2 : w.heap.size + 1 + 1 < w'.heap.size + 1 := (by omega)); (have ho := own_rd ho hrb U.1; obtain ⟨hm0, hm1⟩ := mod_bd x part (by omega) (by omega)))) | (at_builtin; refine wpList_append_own _ rfl _ _ 22 rfl (w.heap.size + 1) 5 i0 (.int .u8 0) 1 1 Tryz.underlying22 hib hz0 hz1 hz2 rfl (by decide) _ _ _ rfl ((ho).alloc _) ⟨(w').heap.size, 0, none⟩ 1 1 [.int .u8 (x % part)] rfl rfl (new_cells [.int .u8 (x % part)] _ rfl) (by intro u hu; simp at hu; subst hu; rfl) (by unfold maxLen; omega) (by omega) (by simp; omega) ?_; rintro v2 w2 hown2 hgr2 -; have hsn := ownU_snocR hown2 (by omega) (by omega)))
          all_goals
            go_roundw
            case rel => exact ⟨_, k - 1, by go_num, by simp; omega, hsn, RdUp.mono ((hU.alloc _).gr hgr2 (fun y hy => by have := row_ge ho y hy; omega)) (by simp; omega), snoc_lt HA.out (by first | exact Int.emod_nonneg _ (by omega) | omega) (by first | omega | (have := Int.emod_lt_of_pos x (show 0 < part by omega); omega))⟩
            case measure => simp [intOf]; omega
      · obtain ⟨a, c, rfl⟩ := ownsRow_shape ho
        have cv := conv_any ho rfl
        clear ho
        go_wp2
        go_ret
        refine ⟨_, rfl, ⟨_, rfl, by rw [bs_size]; omega, by rw [bs_data]; exact HA.out⟩, ?_⟩
        exact RdUp.fin hU (by intro c hU; (repeat (first | with_reducible assumption | refine RdUp.ups ?_ (by with_reducible assumption) | with_reducible refine RdUp.set ?_ (by first | exact Nat.le_refl _ | (simp only []; omega) | (simp; omega)) _ | with_reducible refine RdUp.alloc ?_ _ | with_reducible refine RdUp.drew ?_ | with_reducible exact RdUp.of (Up.refl _)))) (by omega)
theorem l1DataB_as (m : Int) (n : Nat) (hm : m = n) (rb : Nat) (B : Value) (s : SetD) (w : World) (N : Nat) (h : Rdr rb B w N) (hN : N ≤ 1000000000) (hn : n ≤ 1000) (hs : setOk s = true) :
    Calls Tryz.prog 30  #[.pointer (some ⟨rb, 0, none⟩), setV s, .int .i64 m] w (Drawn rb B 3010 (IsStrB n (clr s)) w) := by subst hm; exact l1DataB_any rb B s n w N h hN hn hs
end Go.Proofs.YtekogcjdaolcbaaGreatDoor

/- Walks of the reference's draws of containers and blocks. Conditions: the reader is one (Rdr), its place is bounded. -/
namespace Go.Proofs.YtekogcjdaolcbaaGreatDoor
open Go Go.RowKit
theorem upOut_D {P : Program} (D : Value → World → Prop) {w : World} {r : Result Next} (h : upOut P D w r) : upOut P D w r := h
end Go.Proofs.YtekogcjdaolcbaaGreatDoor

/- Walks of the reference's draws of a block, from the bytes of an input. Conditions: the bytes can be read. -/
namespace Go.Proofs.YtekogcjdaolcbaaGreatDoor
open Go Go.RowKit
def ArgU (w : World) (v : Value) (l : List UInt8) : Prop := ∃ (a : Option Addr) (cap : Nat), v = .slice a l.length cap ∧ l.length ≤ cap ∧ cap ≤ maxLen ∧
  (0 < l.length → ∃ b off, a = some ⟨b, off, none⟩ ∧ b < w.heap.size ∧ ∀ i x, l[i]? = some x → w.cell? ⟨b, off + i, none⟩ = some (.int .u8 x.toNat))
theorem ArgU.up {w w' : World} {v : Value} {l : List UInt8} (h : ArgU w v l) (hu : Up w w') : ArgU w' v l := by
  obtain ⟨a, cap, h1, h2, h3, h4⟩ := h
  refine ⟨a, cap, h1, h2, h3, fun hp => ?_⟩
  obtain ⟨b, off, e1, e2, e3⟩ := h4 hp
  exact ⟨b, off, e1, Nat.lt_of_lt_of_le e2 (Below.size hu), fun i x hi => (Below.cell (p := ⟨b, off + i, none⟩) hu e2).trans (e3 i x hi)⟩
theorem open_at {w : World} {v : Value} {l : List UInt8} (h : ArgU w v l) : Calls Tryz.prog 28  #[v] w (fun e w' => ∃ B, e = .returned (.pointer (some ⟨w.heap.size, 0, none⟩)) ∧ Rdr w.heap.size B w' 0 ∧ Up w w') := by
  obtain ⟨a, cap, h1, h2, h3, h4⟩ := h
  exact open_any v l w a cap h1 h2 h3 h4
end Go.Proofs.YtekogcjdaolcbaaGreatDoor

/- Walk of the reference's l5Places. Conditions: the blocks are those of a string (accOk) and can be read. -/
namespace Go.Proofs.YtekogcjdaolcbaaGreatDoor
open Go.RowKit
structure PlaceD where
  place : Int
  start : Int
end Go.Proofs.YtekogcjdaolcbaaGreatDoor

/- Walks of IndexOf, the program's and the reference's. Conditions: the string's length is below 2^30. -/
namespace Go.Proofs.YtekogcjdaolcbaaGreatDoor
open Go.RowKit
theorem box_other {w : World} {b : Nat} {o : Obj} (h : w.heap[b]? = some o) {p : Addr} (hp : b ≠ p.block) (u : Value) : (w.setCell p u).heap[b]? = some o := by
  rw [Below.heap_setCell _ _ _ _ hp]; exact h
end Go.Proofs.YtekogcjdaolcbaaGreatDoor

/- Walks of the reference's draws of data that may not fit, of settings that may not be valid, of dictionaries. Conditions: the reader is one (Rdr), its place is bounded. -/
namespace Go.Proofs.YtekogcjdaolcbaaGreatDoor
open Go Go.RowKit
def isSetB (v : Value) : Prop := ∃ s : SetD, v = setV s ∧ (-9223372036854775808 ≤ s.lit ∧ s.lit ≤ 9223372036854775807)
theorem isSetB_mk (a b c : Int) (h : -9223372036854775808 ≤ b ∧ b ≤ 9223372036854775807) : isSetB (.agg #[.int .i64 a, .int .i64 b, .int .i64 c]) := ⟨⟨a, b, c⟩, rfl, h⟩
set_option maxRecDepth 100000 in
set_option maxHeartbeats 4000000 in
theorem l1BadB_any (rb : Nat) (B : Value) (s : SetD) (w : World) (N : Nat) (h : Rdr rb B w N) (hN : N ≤ 1000000000) (hs : setOk s = true) :
    Calls Tryz.prog 130  #[.pointer (some ⟨rb, 0, none⟩), setV s] w (Drawn rb B 2 isSetB w) := by
  have hlt := h.lt
  have HR := Lib.hid h
  have hne0 : ¬ w.heap.size = rb := by omega
  have hne1 : ¬ w.heap.size + 1 = rb := by omega
  have hU := RdUp.refl rb B 0 w
  have e1 : w.heap.size < w.heap.size + 1 := by omega
  have e2 : w.heap.size < w.heap.size + 1 + 1 := by omega
  have e3 : w.heap.size + 1 < w.heap.size + 1 + 1 := by omega
  have hlb := (setOk_bd hs).2.1
  obtain ⟨hlb1, hlb2⟩ := hlb
  clear hs
  simp only [setV]
  go_enter Tryz.func130, Tryz.ntmps130
  go_wp2_with (first | (go_at_call 85; ((with_reducible refine (num_at ([-1, 2]) HR.out hU (by intro c hU; (repeat (first | with_reducible assumption | refine RdUp.ups ?_ (by with_reducible assumption) | with_reducible refine RdUp.set ?_ (by first | exact Nat.le_refl _ | (simp only []; omega) | (simp; omega)) _ | with_reducible refine RdUp.alloc ?_ _ | with_reducible refine RdUp.drew ?_ | with_reducible exact RdUp.of (Up.refl _)))) (by omega) (by first | rfl | (simp; done) | fail) (by first | rfl | (simp; done) | fail) (by first | rfl | (simp; done) | fail) (by simp) (by simp) (by first | rfl | (simp; done) | fail)).mono ?_); rintro e w' ⟨i, rfl, hi, hU, U⟩; have D := gcell U.1; have Z := U.1.size; (try simp at Z); (try have Y0 : w.heap.size < w'.heap.size := (by omega)); (try have Y1 : w.heap.size + 1 < w'.heap.size := (by omega)); (try have Y2 : w.heap.size + 1 + 1 < w'.heap.size := (by omega)); (try have X0 : w.heap.size < w'.heap.size + 1 := (by omega)); (try have X1 : w.heap.size + 1 < w'.heap.size + 1 := (by omega)); (try have X2 : w.heap.size + 1 + 1 < w'.heap.size + 1 := (by omega)); (clear hi))) | (go_at_call 85; ((with_reducible refine (num_at ([0, 9, -1, 9223372036854775807]) HR.out hU (by intro c hU; (repeat (first | with_reducible assumption | refine RdUp.ups ?_ (by with_reducible assumption) | with_reducible refine RdUp.set ?_ (by first | exact Nat.le_refl _ | (simp only []; omega) | (simp; omega)) _ | with_reducible refine RdUp.alloc ?_ _ | with_reducible refine RdUp.drew ?_ | with_reducible exact RdUp.of (Up.refl _)))) (by omega) (by first | rfl | (simp; done) | fail) (by first | rfl | (simp; done) | fail) (by first | rfl | (simp; done) | fail) (by simp) (by simp) (by first | rfl | (simp; done) | fail)).mono ?_); rintro e w' ⟨i, rfl, hi, hU, U⟩; have D := gcell U.1; have Z := U.1.size; (try simp at Z); (try have Y0 : w.heap.size < w'.heap.size := (by omega)); (try have Y1 : w.heap.size + 1 < w'.heap.size := (by omega)); (try have Y2 : w.heap.size + 1 + 1 < w'.heap.size := (by omega)); (try have X0 : w.heap.size < w'.heap.size + 1 := (by omega)); (try have X1 : w.heap.size + 1 < w'.heap.size + 1 := (by omega)); (try have X2 : w.heap.size + 1 + 1 < w'.heap.size + 1 := (by omega)); ((have hlx : -9223372036854775808 ≤ i ∧ i ≤ 9223372036854775807 := (by simp at hi; omega)); clear hi))) | (go_at_call 85; ((with_reducible refine (num_at ([s.lit + 1, 11, -1, -9223372036854775808]) HR.out hU (by intro c hU; (repeat (first | with_reducible assumption | refine RdUp.ups ?_ (by with_reducible assumption) | with_reducible refine RdUp.set ?_ (by first | exact Nat.le_refl _ | (simp only []; omega) | (simp; omega)) _ | with_reducible refine RdUp.alloc ?_ _ | with_reducible refine RdUp.drew ?_ | with_reducible exact RdUp.of (Up.refl _)))) (by omega) (by first | rfl | (simp; done) | fail) (by first | rfl | (simp; done) | fail) (by first | rfl | (simp; done) | fail) (by simp) (by simp) (by first | rfl | (simp; done) | fail)).mono ?_); rintro e w' ⟨i, rfl, hi, hU, U⟩; have D := gcell U.1; have Z := U.1.size; (try simp at Z); (try have Y0 : w.heap.size < w'.heap.size := (by omega)); (try have Y1 : w.heap.size + 1 < w'.heap.size := (by omega)); (try have Y2 : w.heap.size + 1 + 1 < w'.heap.size := (by omega)); (try have X0 : w.heap.size < w'.heap.size + 1 := (by omega)); (try have X1 : w.heap.size + 1 < w'.heap.size + 1 := (by omega)); (try have X2 : w.heap.size + 1 + 1 < w'.heap.size + 1 := (by omega)); (clear hi))) | (go_at_call 31; ((with_reducible refine (pick_at HR.out hU (by intro c hU; (repeat (first | with_reducible assumption | refine RdUp.ups ?_ (by with_reducible assumption) | with_reducible refine RdUp.set ?_ (by first | exact Nat.le_refl _ | (simp only []; omega) | (simp; omega)) _ | with_reducible refine RdUp.alloc ?_ _ | with_reducible refine RdUp.drew ?_ | with_reducible exact RdUp.of (Up.refl _)))) (by omega)).mono ?_); rintro e w' ⟨i, rfl, hi0, hi1, hU, U⟩; have D := gcell U.1; have Z := U.1.size; (try simp at Z); (try have Y0 : w.heap.size < w'.heap.size := (by omega)); (try have Y1 : w.heap.size + 1 < w'.heap.size := (by omega)); (try have Y2 : w.heap.size + 1 + 1 < w'.heap.size := (by omega)); (try have X0 : w.heap.size < w'.heap.size + 1 := (by omega)); (try have X1 : w.heap.size + 1 < w'.heap.size + 1 := (by omega)); (try have X2 : w.heap.size + 1 + 1 < w'.heap.size + 1 := (by omega)))))
  all_goals
    have q0 : w'.cell? ⟨w.heap.size + 1, 0, none⟩ = some (.int .i64 0) := by simp [go_sem, *]
    have q1 : w'.cell? ⟨w.heap.size + 1, 1, none⟩ = some (.int .i64 0) := by simp [go_sem, *]
    have q2 : w'.cell? ⟨w.heap.size + 1, 2, none⟩ = some (.int .i64 0) := by simp [go_sem, *]
    refine bodyPost_ret (v := _) (by simp [results, Tryz.results130, go_sem, q0, q1, q2]; rfl) rfl ?_
    refine ⟨_, rfl, isSetB_mk _ _ _ (by first | omega | assumption), ?_⟩
    exact RdUp.fin hU (by intro c hU; (repeat (first | with_reducible assumption | refine RdUp.ups ?_ (by with_reducible assumption) | with_reducible refine RdUp.set ?_ (by first | exact Nat.le_refl _ | (simp only []; omega) | (simp; omega)) _ | with_reducible refine RdUp.alloc ?_ _ | with_reducible refine RdUp.drew ?_ | with_reducible exact RdUp.of (Up.refl _)))) (by omega)
theorem RdInts.gr {rb : Nat} {w w' : World} {v : Value} {l : List Int} (h : RdInts rb w v l) (hg : w.grownBy w' (some rb)) : RdInts rb w' v l := by
  obtain ⟨b, off, cap, h1, h2, h3, h4, h5, h6⟩ := h
  exact ⟨b, off, cap, h1, h2, h3, Nat.lt_of_lt_of_le h4 hg.size, h5, fun i x hi => ((gcell hg).1 b _ h4 (fun e => h5 (Option.some.inj e))).trans (h6 i x hi)⟩
theorem rdInts_new {rb : Nat} {w : World} {T : TypeId} (l : List Int) {cs : Array Value} (hcs : cs = (l.map (Value.int .i64)).toArray) (hl : l.length ≤ 100) {n cap : Nat} (hn : n = l.length) (hc : cap = n) (hlt : rb < w.heap.size) : RdInts rb (w.alloc (.cells cs T)) (.slice (some ⟨w.heap.size, 0, none⟩) n cap) l := by
  subst hcs hc hn
  refine ⟨w.heap.size, 0, l.length, rfl, Nat.le_refl _, by unfold maxLen; omega, by simp, by omega, fun i x hi => ?_⟩
  rw [box_cell (MapKept.heap_alloc w _).1, Nat.zero_add]
  simp [hi]
end Go.Proofs.YtekogcjdaolcbaaGreatDoor

/- Texts joined into one: Imp1, Imp2. Conditions: as each says. -/
/- Walks of the program's functions on settings. Conditions: the setting is valid where it says so. -/
namespace Go.Proofs.YtekogcjdaolcbaaGreatDoor
open Go.RowKit
set_option maxRecDepth 100000 in
set_option maxHeartbeats 1000000 in
theorem orderI_any (n : Int) (w : World) :
    Calls Tryz.prog 142  #[.int .i64 n] w (fun e w' => e = .returned (.bool (n == 0 || n == 1)) ∧ w = w') := by
  by_cases h : n = 0
  · subst h
    go_enter Tryz.func142, Tryz.ntmps142
    go_wp2
    go_ret
    exact ⟨rfl, rfl⟩
  · have h' : (n == 0) = false := by simpa using h
    go_enter Tryz.func142, Tryz.ntmps142
    go_wp2
    go_ret
    exact ⟨ret_bool (by rw [h', Bool.false_or]), rfl⟩
set_option maxRecDepth 100000 in
set_option maxHeartbeats 1000000 in
theorem setI_any (o l m : Int) (w : World) (hl : -9223372036854775808 ≤ l ∧ l ≤ 9223372036854775807) :
    Calls Tryz.prog 89  #[.agg #[.int .i64 o, .int .i64 l, .int .i64 m]] w (Same (.bool (setOk ⟨o, l, m⟩)) w) := by
  cases h1 : (o == 0 || o == 1)
  · go_enter Tryz.func89, Tryz.ntmps89
    go_wp2_with (first | (go_at_call 142; (with_reducible refine (orderI_any _ _).mono ?_); rintro e w' ⟨rfl, rfl⟩))
    go_ret
    refine ⟨ret_bool (by simp only [setOk, h1]; rfl), ?_⟩
    (repeat (first | exact Up.refl _ | refine Up.alloc ?_ _ | refine Up.drew ?_ | refine Up.set ?_ (by first | exact Nat.le_refl _ | (simp; done) | (simp; omega)) _ | refine Up.trans ?_ (by with_reducible assumption)))
  · by_cases h2 : 1 ≤ l
    · by_cases h3 : l ≤ 8
      · have e2 : inB l 1 8 = true := inB_iff.2 ⟨h2, h3⟩
        by_cases h4 : l + 2 ≤ m
        all_goals
          go_enter Tryz.func89, Tryz.ntmps89
          go_wp2_with (first | (go_at_call 142; (with_reducible refine (orderI_any _ _).mono ?_); rintro e w' ⟨rfl, rfl⟩))
          go_ret
          refine ⟨ret_bool (by simp only [setOk, h1, e2]; simp [inB]; try omega), ?_⟩
          (repeat (first | exact Up.refl _ | refine Up.alloc ?_ _ | refine Up.drew ?_ | refine Up.set ?_ (by first | exact Nat.le_refl _ | (simp; done) | (simp; omega)) _ | refine Up.trans ?_ (by with_reducible assumption)))
      · have e2 : inB l 1 8 = false := inB_not.2 (by omega)
        go_enter Tryz.func89, Tryz.ntmps89
        go_wp2_with (first | (go_at_call 142; (with_reducible refine (orderI_any _ _).mono ?_); rintro e w' ⟨rfl, rfl⟩))
        go_ret
        refine ⟨ret_bool (by simp only [setOk, h1, e2]; rfl), ?_⟩
        (repeat (first | exact Up.refl _ | refine Up.alloc ?_ _ | refine Up.drew ?_ | refine Up.set ?_ (by first | exact Nat.le_refl _ | (simp; done) | (simp; omega)) _ | refine Up.trans ?_ (by with_reducible assumption)))
    · have e2 : inB l 1 8 = false := inB_not.2 (by omega)
      go_enter Tryz.func89, Tryz.ntmps89
      go_wp2_with (first | (go_at_call 142; (with_reducible refine (orderI_any _ _).mono ?_); rintro e w' ⟨rfl, rfl⟩))
      go_ret
      refine ⟨ret_bool (by simp only [setOk, h1, e2]; rfl), ?_⟩
      (repeat (first | exact Up.refl _ | refine Up.alloc ?_ _ | refine Up.drew ?_ | refine Up.set ?_ (by first | exact Nat.le_refl _ | (simp; done) | (simp; omega)) _ | refine Up.trans ?_ (by with_reducible assumption)))
theorem setI_ok (s : SetD) (w : World) (h : setOk s = true) : Calls Tryz.prog 89  #[setV s] w (Same (.bool true) w) := by
  obtain ⟨-, h1, -, -⟩ := setOk_bd h
  have := setI_any s.ord s.lit s.most w (by omega)
  rw [show (⟨s.ord, s.lit, s.most⟩ : SetD) = s from rfl, h] at this
  exact this
set_option maxRecDepth 100000 in
set_option maxHeartbeats 1000000 in
theorem clearI_any (s : SetD) (w : World) (h : setOk s = true) :
    Calls Tryz.prog 40  #[setV s] w (Same (.int .i64 (clr s)) w) := by
  have cS := fun w => setI_ok s w h
  obtain ⟨o, l, m⟩ := s
  obtain ⟨-, ⟨h1, h2⟩, -, -⟩ := setOk_bd h
  simp only at h1 h2
  obtain ⟨n, rfl⟩ : ∃ n : Nat, l = n := ⟨l.toNat, by omega⟩
  clear h
  have e : Hid (((2 ^ n : Nat) : Int) = (clr ⟨o, n, m⟩ : Nat)) := rfl
  have hp := pow2_small (n := n) (by omega)
  simp only [setV] at *
  go_enter Tryz.func40, Tryz.ntmps40
  go_wp2_with ((go_at_call 89; (with_reducible refine (cS _).mono ?_); rintro e w1 ⟨rfl, U1⟩; have B1 := bcell U1; have Z1 := U1.size; (try simp at Z1); (try rw [Nat.add_one_le_iff] at Z1)))
  go_ret
  refine ⟨ret_int (by rw [← e.out]; first | rfl | (simp; done) | (rw [IntWalk.wrap64_in _ (by omega)]; simp)), ?_⟩
  (repeat (first | exact Up.refl _ | refine Up.alloc ?_ _ | refine Up.drew ?_ | refine Up.set ?_ (by first | exact Nat.le_refl _ | (simp; done) | (simp; omega)) _ | refine Up.trans ?_ (by with_reducible assumption)))
set_option maxRecDepth 100000 in
set_option maxHeartbeats 1000000 in
theorem endI_any (s : SetD) (w : World) (h : setOk s = true) :
    Calls Tryz.prog 58  #[setV s] w (Same (.int .i64 ((clr s : Int) + 1)) w) := by
  have cS := fun w => setI_ok s w h
  obtain ⟨o, l, m⟩ := s
  obtain ⟨-, ⟨h1, h2⟩, -, -⟩ := setOk_bd h
  simp only at h1 h2
  obtain ⟨n, rfl⟩ : ∃ n : Nat, l = n := ⟨l.toNat, by omega⟩
  clear h
  have e : Hid (((2 ^ n : Nat) : Int) = (clr ⟨o, n, m⟩ : Nat)) := rfl
  have hp := pow2_small (n := n) (by omega)
  simp only [setV] at *
  go_enter Tryz.func58, Tryz.ntmps58
  go_wp2_with ((go_at_call 89; (with_reducible refine (cS _).mono ?_); rintro e w1 ⟨rfl, U1⟩; have B1 := bcell U1; have Z1 := U1.size; (try simp at Z1); (try rw [Nat.add_one_le_iff] at Z1)))
  go_ret
  refine ⟨ret_int (by rw [← e.out]; first | rfl | (simp; done) | (rw [IntWalk.wrap64_in _ (by omega)]; simp)), ?_⟩
  (repeat (first | exact Up.refl _ | refine Up.alloc ?_ _ | refine Up.drew ?_ | refine Up.set ?_ (by first | exact Nat.le_refl _ | (simp; done) | (simp; omega)) _ | refine Up.trans ?_ (by with_reducible assumption)))
set_option maxRecDepth 100000 in
set_option maxHeartbeats 1000000 in
theorem lastI_any (s : SetD) (w : World) (h : setOk s = true) :
    Calls Tryz.prog 97  #[setV s] w (Same (.int .i64 (lastC s : Nat)) w) := by
  have cS := fun w => setI_ok s w h
  obtain ⟨o, l, m⟩ := s
  obtain ⟨-, ⟨h1, h2⟩, h3, h4⟩ := setOk_bd h
  simp only at h1 h2 h3 h4
  obtain ⟨n, rfl⟩ : ∃ n : Nat, m = n := ⟨m.toNat, by omega⟩
  clear h
  have hq : 0 < 2 ^ n := Nat.pow_pos (by decide)
  have e : Hid (((2 ^ n : Nat) : Int) - 1 = ((lastC ⟨o, l, n⟩ : Nat) : Int)) := by
    show ((2 ^ n : Nat) : Int) - 1 = ((2 ^ n - 1 : Nat) : Int)
    omega
  have hp := pow2_small (n := n) (by omega)
  clear hq
  simp only [setV] at *
  go_enter Tryz.func97, Tryz.ntmps97
  go_wp2_with ((go_at_call 89; (with_reducible refine (cS _).mono ?_); rintro e w1 ⟨rfl, U1⟩; have B1 := bcell U1; have Z1 := U1.size; (try simp at Z1); (try rw [Nat.add_one_le_iff] at Z1)))
  go_ret
  refine ⟨ret_int (by rw [← e.out]; first | rfl | (simp; done) | (rw [IntWalk.wrap64_in _ (by omega)]; simp)), ?_⟩
  (repeat (first | exact Up.refl _ | refine Up.alloc ?_ _ | refine Up.drew ?_ | refine Up.set ?_ (by first | exact Nat.le_refl _ | (simp; done) | (simp; omega)) _ | refine Up.trans ?_ (by with_reducible assumption)))
end Go.Proofs.YtekogcjdaolcbaaGreatDoor
/- Walks of the program's small functions on what is known. Conditions: the setting is valid, the pairs are few. -/
namespace Go.Proofs.YtekogcjdaolcbaaGreatDoor
open Go.RowKit
abbrev knV (s : SetD) (a : Option Addr) (n c : Nat) (ba la : Int) : Value := .agg #[.int .i64 s.ord, .int .i64 s.lit, .int .i64 s.most, .slice a n c, .int .i64 ba, .int .i64 la]
theorem clr_le {s : SetD} (h : setOk s = true) : 2 ≤ clr s ∧ clr s ≤ 256 ∧ lastC s ≤ 1023 := by have := clr_bd h; omega
set_option maxRecDepth 100000 in
set_option maxHeartbeats 1000000 in
theorem nextI_any (s : SetD) (ba la : Int) (a : Option Addr) (n c : Nat) (w : World) (h : setOk s = true) (hn : n ≤ 100000) :
    Calls Tryz.prog 94  #[knV s a n c ba la] w (Same (.int .i64 ((clr s : Int) + 2 + n)) w) := by
  have cE := fun w => endI_any s w h
  obtain ⟨hb1, hb2, hb3⟩ := clr_le h
  have e : Hid ((clr s : Int) + 2 + n = clr s + 1 + 1 + n) := by unfold Hid; omega
  rw [e.out]
  generalize clr s = c at *
  obtain ⟨o, l, m⟩ := s
  simp only [knV] at *
  clear h
  go_enter Tryz.func94, Tryz.ntmps94
  go_wp2
  refine wp_region_up 8 (by kernel_rfl) (by kernel_rfl) ?_
  simp only [List.take, List.drop]
  repeat (refine wpUp_step (fun K hK => ?_); go_simp; (try simp only [↓IntWalk.iteOmega]); first
    | (refine hK _ _ ?_; clear hK K)
    | (apply stepU_c
       · intro wq hwq; (have hbq := bcell hwq; (repeat (first | refine fills_no (by rfl) ?_ | refine fills_yes (by rfl) (fun vq hvq => ?_))); simp only [List.filter_nil, fills]; unfold upAt; go_simp; (try go_bits); (try simp only [↓IntWalk.iteOmega]); (try (rw [dif_pos (by omega)]; go_simp; try go_bits)); first | exact upOut_value | (apply upOut_call; (go_at_call 58; exact cE _)) | (apply upOut_eq; (go_at_call 58; exact cE _)))
       go_simp; refine hK _ _ ?_; clear hK K))
  refine wpUp_nil (fun wq hwq => ?_)
  simp only [fills]
  go_wp2
  go_ret
  refine ⟨rfl, ?_⟩
  (repeat (first | exact Up.refl _ | refine Up.alloc ?_ _ | refine Up.drew ?_ | refine Up.set ?_ (by first | exact Nat.le_refl _ | (simp; done) | (simp; omega)) _ | refine Up.trans ?_ (by with_reducible assumption)))
def growN (s : SetD) (n : Nat) (la : Int) : Bool := decide (la ≠ -1) && decide (clr s + 2 + n ≤ lastC s)
theorem growN_eq (k : KnD) : growN k.set k.ps.length k.last = k.grow := rfl
set_option maxRecDepth 100000 in
set_option maxHeartbeats 1000000 in
theorem growI_any (s : SetD) (ba la : Int) (a : Option Addr) (n c : Nat) (w : World) (h : setOk s = true) (hn : n ≤ 100000) :
    Calls Tryz.prog 92  #[knV s a n c ba la] w (Same (.bool (growN s n la)) w) := by
  have cN := fun w => nextI_any s ba la a n c w h hn
  have cL := fun w => lastI_any s w h
  obtain ⟨hb1, hb2, hb3⟩ := clr_le h
  by_cases hla : la = -1
  · have e : Hid (growN s n la = false) := by unfold Hid growN; rw [hla]; rfl
    rw [e.out]
    subst hla
    obtain ⟨o, l, m⟩ := s
    clear h cN cL
    simp only [knV]
    go_enter Tryz.func92, Tryz.ntmps92
    go_wp2
    refine wp_region_up 11 (by kernel_rfl) (by kernel_rfl) ?_
    simp only [List.take, List.drop]
    repeat (refine wpUp_step (fun K hK => ?_); go_simp; (try simp only [↓IntWalk.iteOmega]); first
      | (refine hK _ _ ?_; clear hK K)
      | (apply stepU_c
         · intro wq hwq; (have hbq := bcell hwq; (repeat (first | refine fills_no (by rfl) ?_ | refine fills_yes (by rfl) (fun vq hvq => ?_))); simp only [List.filter_nil, fills]; unfold upAt; go_simp; (try go_bits); (try simp only [↓IntWalk.iteOmega]); (try (rw [dif_pos (by omega)]; go_simp; try go_bits)); first | exact upOut_value)
         go_simp; refine hK _ _ ?_; clear hK K))
    refine wpUp_nil (fun wq hwq => ?_)
    simp only [fills]
    go_wp2
    go_ret
    refine ⟨rfl, ?_⟩
    (repeat (first | exact Up.refl _ | refine Up.alloc ?_ _ | refine Up.drew ?_ | refine Up.set ?_ (by first | exact Nat.le_refl _ | (simp; done) | (simp; omega)) _ | refine Up.trans ?_ (by with_reducible assumption)))
  · have e : Hid (growN s n la = decide (((clr s : Int) + 2 + n) ≤ ((lastC s : Nat) : Int))) := by
      unfold Hid growN
      rw [decide_eq_true hla, Bool.true_and, decide_eq_decide]; omega
    rw [e.out]
    generalize clr s = cc at *
    generalize lastC s = lc at *
    obtain ⟨o, l, m⟩ := s
    simp only [knV] at *
    clear h e
    go_enter Tryz.func92, Tryz.ntmps92
    go_wp2
    refine wp_region_up 11 (by kernel_rfl) (by kernel_rfl) ?_
    simp only [List.take, List.drop]
    repeat (refine wpUp_step (fun K hK => ?_); go_simp; (try simp only [↓IntWalk.iteOmega]); first
      | (refine hK _ _ ?_; clear hK K)
      | (apply stepU_c
         · intro wq hwq; (have hbq := bcell hwq; (repeat (first | refine fills_no (by rfl) ?_ | refine fills_yes (by rfl) (fun vq hvq => ?_))); simp only [List.filter_nil, fills]; unfold upAt; go_simp; (try go_bits); (try simp only [↓IntWalk.iteOmega]); (try (rw [dif_pos (by omega)]; go_simp; try go_bits)); first | exact upOut_value | (apply upOut_call; (go_at_call 94; exact cN _)) | (apply upOut_eq; (go_at_call 94; exact cN _)) | (apply upOut_call; (go_at_call 97; exact cL _)) | (apply upOut_eq; (go_at_call 97; exact cL _)))
         go_simp; refine hK _ _ ?_; clear hK K))
    refine wpUp_nil (fun wq hwq => ?_)
    simp only [fills]
    go_wp2
    go_ret
    refine ⟨ret_bool (by first | rfl | (simp; done) | (simp; omega)), ?_⟩
    (repeat (first | exact Up.refl _ | refine Up.alloc ?_ _ | refine Up.drew ?_ | refine Up.set ?_ (by first | exact Nat.le_refl _ | (simp; done) | (simp; omega)) _ | refine Up.trans ?_ (by with_reducible assumption)))
end Go.Proofs.YtekogcjdaolcbaaGreatDoor

/- Texts joined into one: Tree1, Tree2. Conditions: as each says. -/
/- Plain model of the program's tree of words: its nodes, in the order of their making, and the nodes of the pairs. Conditions: the pairs may stand where they stand (PrsOk). -/
namespace Go.Proofs.YtekogcjdaolcbaaGreatDoor
open Go.RowKit
structure NodD where
  par : Int
  las : Int
  fir : Int
  cod : Int
def nod0 : NodD := ⟨-1, 0, 0, 0⟩
def nodAt (ns : List NodD) (i : Nat) : NodD := ns.getD i nod0
theorem nodAt_app (ns : List NodD) (x : NodD) {i : Nat} (h : i < ns.length) : nodAt (ns ++ [x]) i = nodAt ns i := by
  unfold nodAt; rw [List.getD_eq_getElem?_getD, List.getD_eq_getElem?_getD, List.getElem?_append_left h]
theorem nodAt_new (ns : List NodD) (x : NodD) : nodAt (ns ++ [x]) ns.length = x := by
  unfold nodAt; rw [List.getD_eq_getElem?_getD, List.getElem?_append_right (Nat.le_refl _)]; simp
theorem nodAt_take (ns : List NodD) {i m : Nat} (h : i < m) : nodAt (ns.take m) i = nodAt ns i := by
  unfold nodAt; rw [List.getD_eq_getElem?_getD, List.getD_eq_getElem?_getD, List.getElem?_take, if_pos h]
theorem nodAt_get {ns : List NodD} {i : Nat} (h : i < ns.length) : nodAt ns i = ns[i] := by
  unfold nodAt; rw [List.getD_eq_getElem?_getD, List.getElem?_eq_getElem h]; rfl
def lastCh (ns : List NodD) (n : Int) : Nat → Int
  | 0 => -1
  | m + 1 => if (nodAt ns m).par = n then m else lastCh ns n m
def findCh (ns : List NodD) (n b : Int) : Nat → Int
  | 0 => -1
  | m + 1 => if (nodAt ns m).par = n ∧ (nodAt ns m).las = b then m else findCh ns n b m
theorem lastCh_bd (ns : List NodD) (n : Int) (m : Nat) : -1 ≤ lastCh ns n m ∧ lastCh ns n m < m := by
  induction m with
  | zero => simp [lastCh]
  | succ m ih => unfold lastCh; split <;> omega
theorem findCh_bd (ns : List NodD) (n b : Int) (m : Nat) : -1 ≤ findCh ns n b m ∧ findCh ns n b m < m := by
  induction m with
  | zero => simp [findCh]
  | succ m ih => unfold findCh; split <;> omega
theorem lastCh_cases (ns : List NodD) (n : Int) (m : Nat) : (lastCh ns n m = -1 ∧ ∀ j, j < m → (nodAt ns j).par ≠ n) ∨ ∃ j : Nat, j < m ∧ lastCh ns n m = j ∧ (nodAt ns j).par = n ∧ ∀ i, j < i → i < m → (nodAt ns i).par ≠ n := by
  induction m with
  | zero => exact .inl ⟨rfl, fun j hj => absurd hj (Nat.not_lt_zero _)⟩
  | succ m ih =>
    by_cases h : (nodAt ns m).par = n
    · refine .inr ⟨m, by omega, by rw [lastCh, if_pos h], h, fun i h1 h2 => by omega⟩
    · have e : lastCh ns n (m + 1) = lastCh ns n m := by rw [lastCh, if_neg h]
      rw [e]
      rcases ih with ⟨h1, h2⟩ | ⟨j, h1, h2, h3, h4⟩
      · refine .inl ⟨h1, fun j hj => ?_⟩
        rcases Nat.lt_or_ge j m with hl | hl
        · exact h2 j hl
        · have : j = m := by omega
          subst this; exact h
      · refine .inr ⟨j, by omega, h2, h3, fun i hi hi2 => ?_⟩
        rcases Nat.lt_or_ge i m with hl | hl
        · exact h4 i hi hl
        · have : i = m := by omega
          subst this; exact h
theorem findCh_cases (ns : List NodD) (n b : Int) (m : Nat) : (findCh ns n b m = -1 ∧ ∀ j, j < m → ¬ ((nodAt ns j).par = n ∧ (nodAt ns j).las = b)) ∨ ∃ j : Nat, j < m ∧ findCh ns n b m = j ∧ (nodAt ns j).par = n ∧ (nodAt ns j).las = b := by
  induction m with
  | zero => exact .inl ⟨rfl, fun j hj => absurd hj (Nat.not_lt_zero _)⟩
  | succ m ih =>
    by_cases h : (nodAt ns m).par = n ∧ (nodAt ns m).las = b
    · exact .inr ⟨m, by omega, by rw [findCh, if_pos h], h⟩
    · have e : findCh ns n b (m + 1) = findCh ns n b m := by rw [findCh, if_neg h]
      rw [e]
      rcases ih with ⟨h1, h2⟩ | ⟨j, h1, h2⟩
      · refine .inl ⟨h1, fun j hj => ?_⟩
        rcases Nat.lt_or_ge j m with hl | hl
        · exact h2 j hl
        · have : j = m := by omega
          subst this; exact h
      · exact .inr ⟨j, by omega, h2⟩
theorem find_none_last {ns : List NodD} {n : Int} {m : Nat} (h : lastCh ns n m = -1) (b : Int) : findCh ns n b m = -1 := by
  rcases findCh_cases ns n b m with ⟨h1, _⟩ | ⟨j, h1, _, h3, _⟩
  · exact h1
  · rcases lastCh_cases ns n m with ⟨_, h5⟩ | ⟨i, _, h6, _⟩
    · exact absurd h3 (h5 j h1)
    · omega
theorem find_last {ns : List NodD} {n : Int} {m j : Nat} (h : lastCh ns n m = j) (b : Int) : findCh ns n b m = if (nodAt ns j).las = b then (j : Int) else findCh ns n b j := by
  induction m with
  | zero => simp [lastCh] at h
  | succ m ih =>
    by_cases hp : (nodAt ns m).par = n
    · have e : lastCh ns n (m + 1) = m := by rw [lastCh, if_pos hp]
      have : j = m := by omega
      subst this
      rw [findCh]
      by_cases hl : (nodAt ns j).las = b
      · rw [if_pos ⟨hp, hl⟩, if_pos hl]
      · rw [if_neg (fun h => hl h.2), if_neg hl]
    · have e : lastCh ns n (m + 1) = lastCh ns n m := by rw [lastCh, if_neg hp]
      rw [e] at h
      rw [findCh, if_neg (fun h => hp h.1)]
      exact ih h
theorem lastCh_app (ns : List NodD) (x : NodD) (n : Int) : ∀ m, m ≤ ns.length → lastCh (ns ++ [x]) n m = lastCh ns n m
  | 0, _ => rfl
  | m + 1, h => by rw [lastCh, lastCh, nodAt_app ns x (by omega), lastCh_app ns x n m (by omega)]
theorem lastCh_take (ns : List NodD) (n : Int) (t : Nat) : ∀ m, m ≤ t → lastCh (ns.take t) n m = lastCh ns n m
  | 0, _ => rfl
  | m + 1, h => by rw [lastCh, lastCh, nodAt_take ns (by omega), lastCh_take ns n t m (by omega)]
theorem lastCh_new (ns : List NodD) (x : NodD) (n : Int) : lastCh (ns ++ [x]) n (ns.length + 1) = if x.par = n then (ns.length : Int) else lastCh ns n ns.length := by
  rw [lastCh, nodAt_new, lastCh_app ns x n _ (Nat.le_refl _)]
structure TreD where
  ns : List NodD
  ix : List Nat
def litsN (c : Nat) : List NodD := (List.range c).map fun (b : Nat) => ⟨-1, b, b, b⟩
def nodeOf (c : Nat) (t : TreD) (x : Int) : Nat := if x < c then x.toNat else t.ix.getD (x.toNat - (c + 2)) 0
def learnT (c : Nat) (t : TreD) (p : PairD) : TreD :=
  if findCh t.ns (nodeOf c t p.pre) p.byt t.ns.length < 0 then ⟨t.ns ++ [⟨nodeOf c t p.pre, p.byt, (nodAt t.ns (nodeOf c t p.pre)).fir, (c : Int) + 2 + t.ix.length⟩], t.ix ++ [t.ns.length]⟩
  else ⟨t.ns, t.ix ++ [(findCh t.ns (nodeOf c t p.pre) p.byt t.ns.length).toNat]⟩
def treeF (c : Nat) (ps : List PairD) : TreD := ps.foldl (learnT c) ⟨litsN c, []⟩
theorem treeF_snoc (c : Nat) (ps : List PairD) (p : PairD) : treeF c (ps ++ [p]) = learnT c (treeF c ps) p := by simp [treeF, List.foldl_append]
theorem litsN_length (c : Nat) : (litsN c).length = c := by simp [litsN]
theorem litsN_at {c i : Nat} (h : i < c) : nodAt (litsN c) i = ⟨-1, i, i, i⟩ := by
  rw [nodAt_get (by rw [litsN_length]; exact h)]; simp [litsN]
theorem nodeOf_app {c : Nat} {ns ns' : List NodD} {ix : List Nat} {n : Nat} {x : Int} (h : codeOk c ix.length x = true) : nodeOf c ⟨ns', ix ++ [n]⟩ x = nodeOf c ⟨ns, ix⟩ x := by
  rw [codeOk_iff] at h
  unfold nodeOf
  split
  · rfl
  · simp only []
    rw [List.getD_eq_getElem?_getD, List.getD_eq_getElem?_getD, List.getElem?_append_left (by omega)]
theorem nodeOf_new {c : Nat} {ns : List NodD} {ix : List Nat} {n : Nat} : nodeOf c ⟨ns, ix ++ [n]⟩ ((c : Int) + 2 + ix.length) = n := by
  unfold nodeOf
  rw [if_neg (by omega)]
  simp only []
  rw [List.getD_eq_getElem?_getD, List.getElem?_append_right (by omega), show ((c : Int) + 2 + ix.length).toNat - (c + 2) - ix.length = 0 by omega]
  rfl
structure TrOk (c : Nat) (ps : List PairD) (t : TreD) : Prop where
  ixl : t.ix.length = ps.length
  lo : c ≤ t.ns.length
  hi : t.ns.length ≤ c + ps.length
  lit : ∀ i : Nat, i < c → nodAt t.ns i = ⟨-1, i, i, i⟩
  par : ∀ i : Nat, c ≤ i → i < t.ns.length → ∃ p : Nat, (nodAt t.ns i).par = p ∧ p < i
  bytes : ∀ i : Nat, i < t.ns.length → 0 ≤ (nodAt t.ns i).las ∧ (nodAt t.ns i).las < c ∧ 0 ≤ (nodAt t.ns i).fir ∧ (nodAt t.ns i).fir < c
  code : ∀ i : Nat, i < t.ns.length → codeOk c ps.length (nodAt t.ns i).cod = true ∧ (c ≤ i → (c : Int) + 2 ≤ (nodAt t.ns i).cod)
  back : ∀ i : Nat, i < t.ns.length → nodeOf c t (nodAt t.ns i).cod = i
  inc : ∀ i j : Nat, i < j → j < t.ns.length → (nodAt t.ns i).cod < (nodAt t.ns j).cod
  node : ∀ x : Int, codeOk c ps.length x = true → nodeOf c t x < t.ns.length ∧ (nodAt t.ns (nodeOf c t x)).cod ≤ x ∧ wordP c ps (nodAt t.ns (nodeOf c t x)).cod = wordP c ps x
  word : ∀ i : Nat, c ≤ i → i < t.ns.length → wordP c ps (nodAt t.ns i).cod = wordP c ps (nodAt t.ns (nodAt t.ns i).par.toNat).cod ++ [ub (nodAt t.ns i).las]
  first : ∀ i : Nat, i < t.ns.length → (wordP c ps (nodAt t.ns i).cod).getD 0 0 = ub (nodAt t.ns i).fir
  inj : ∀ i j : Nat, i < t.ns.length → j < t.ns.length → wordP c ps (nodAt t.ns i).cod = wordP c ps (nodAt t.ns j).cod → i = j
theorem ub_inj {c : Nat} (hc : c ≤ 256) {a b : Int} (ha : 0 ≤ a ∧ a < c) (hb : 0 ≤ b ∧ b < c) (h : ub a = ub b) : a = b := by
  have h1 := ub_nat ha.1 (by omega)
  have h2 := ub_nat hb.1 (by omega)
  rw [h] at h1; omega
theorem trOk_nil {c : Nat} (hc : c ≤ 256) : TrOk c [] ⟨litsN c, []⟩ := by
  have hl := litsN_length c
  refine ⟨rfl, by simp only []; omega, by simp only []; omega, fun i hi => litsN_at hi, fun i h1 h2 => ?_, fun i hi => ?_, fun i hi => ?_, fun i hi => ?_, fun i j h1 h2 => ?_, fun x hx => ?_, fun i h1 h2 => ?_, fun i hi => ?_, fun i j hi hj h => ?_⟩
  all_goals simp only [hl] at *
  · omega
  · rw [litsN_at hi]; simp only []; omega
  · rw [litsN_at hi]; simp only []; rw [codeOk_iff]; omega
  · rw [litsN_at hi]; simp only [nodeOf]; rw [if_pos (by omega)]; omega
  · rw [litsN_at (by omega : i < c), litsN_at h2]; simp only []; omega
  · rw [codeOk_iff] at hx
    simp only [List.length_nil] at hx
    have e : nodeOf c ⟨litsN c, []⟩ x = x.toNat := by unfold nodeOf; rw [if_pos (by omega)]
    rw [e, litsN_at (by omega : x.toNat < c)]
    simp only []
    have : ((x.toNat : Nat) : Int) = x := by omega
    rw [this]
    exact ⟨by omega, by omega, rfl⟩
  · omega
  · rw [litsN_at hi]; simp only []; rw [wordP_lit (by omega)]; rfl
  · rw [litsN_at hi, litsN_at hj] at h
    simp only [] at h
    rw [wordP_lit (by omega), wordP_lit (by omega)] at h
    have := ub_inj hc (a := i) (b := j) (by omega) (by omega) (by simpa using h)
    omega
theorem word_split {c : Nat} {ps : List PairD} {t : TreD} (h : TrOk c ps t) {i : Nat} (hi : i < t.ns.length) : (i < c ∧ wordP c ps (nodAt t.ns i).cod = [ub i]) ∨ ∃ p : Nat, c ≤ i ∧ (nodAt t.ns i).par = p ∧ p < i ∧ wordP c ps (nodAt t.ns i).cod = wordP c ps (nodAt t.ns p).cod ++ [ub (nodAt t.ns i).las] := by
  by_cases hc : i < c
  · left
    refine ⟨hc, ?_⟩
    rw [h.lit i hc]; exact wordP_lit (by simp only []; omega)
  · right
    obtain ⟨p, h1, h2⟩ := h.par i (by omega) hi
    refine ⟨p, by omega, h1, h2, ?_⟩
    have := h.word i (by omega) hi
    rw [h1] at this
    exact this
theorem learnT_new {c : Nat} {t : TreD} {p : PairD} (h : findCh t.ns (nodeOf c t p.pre) p.byt t.ns.length < 0) : learnT c t p = ⟨t.ns ++ [⟨nodeOf c t p.pre, p.byt, (nodAt t.ns (nodeOf c t p.pre)).fir, (c : Int) + 2 + t.ix.length⟩], t.ix ++ [t.ns.length]⟩ := by
  unfold learnT; rw [if_pos h]
theorem learnT_old {c : Nat} {t : TreD} {p : PairD} (h : ¬ findCh t.ns (nodeOf c t p.pre) p.byt t.ns.length < 0) : learnT c t p = ⟨t.ns, t.ix ++ [(findCh t.ns (nodeOf c t p.pre) p.byt t.ns.length).toNat]⟩ := by
  unfold learnT; rw [if_neg h]
theorem codeOk_new {c n : Nat} {x : Int} (h : codeOk c (n + 1) x = true) : codeOk c n x = true ∨ x = (c : Int) + 2 + n := by
  rw [codeOk_iff] at *; omega
theorem trOk_learn {c : Nat} (hc : c ≤ 256) {ps : List PairD} {t : TreD} (h : TrOk c ps t) (hok : PrsOk c ps) {p : PairD} (h1 : codeOk c ps.length p.pre = true) (h2 : 0 ≤ p.byt) (h3 : p.byt < c) : TrOk c (ps ++ [p]) (learnT c t p) := by
  have hok' : PrsOk c (ps ++ [p]) := hok.snoc h1 h2 h3
  have hw : ∀ x, codeOk c ps.length x = true → wordP c (ps ++ [p]) x = wordP c ps x := fun x hx => wordP_app hx
  have hwn : wordP c (ps ++ [p]) ((c : Int) + 2 + ps.length) = wordP c ps p.pre ++ [ub p.byt] := by
    have := wordP_pair hok' (i := ps.length) (by simp)
    rw [this]
    simp only [List.getElem_append_right (Nat.le_refl _), Nat.sub_self, List.getElem_cons_zero]
    rw [hw _ h1]
  obtain ⟨hn1, hn2, hn3⟩ := h.node p.pre h1
  have hlen : (ps ++ [p]).length = ps.length + 1 := by simp
  have hcm : ∀ x, codeOk c ps.length x = true → codeOk c (ps ++ [p]).length x = true := fun x hx => codeOk_mono hx (by rw [hlen]; omega)
  obtain ⟨ns, ix⟩ := t
  have hixl : ix.length = ps.length := h.ixl
  by_cases hf : findCh ns (nodeOf c ⟨ns, ix⟩ p.pre) p.byt ns.length < 0
  · -- a new node
    rw [learnT_new (t := ⟨ns, ix⟩) hf]
    simp only [] at *
    have hnone : ∀ j, j < ns.length → ¬ ((nodAt ns j).par = (nodeOf c ⟨ns, ix⟩ p.pre : Nat) ∧ (nodAt ns j).las = p.byt) := by
      rcases findCh_cases ns (nodeOf c ⟨ns, ix⟩ p.pre) p.byt ns.length with ⟨_, hj⟩ | ⟨j, _, hj, _⟩
      · exact hj
      · omega
    generalize hP : nodeOf c ⟨ns, ix⟩ p.pre = P at *
    generalize hx : (⟨(P : Int), p.byt, (nodAt ns P).fir, (c : Int) + 2 + ix.length⟩ : NodD) = X at *
    have hX1 : X.par = P := by rw [← hx]
    have hX2 : X.las = p.byt := by rw [← hx]
    have hX3 : X.fir = (nodAt ns P).fir := by rw [← hx]
    have hX4 : X.cod = (c : Int) + 2 + ps.length := by rw [← hx, hixl]
    have hl : (ns ++ [X]).length = ns.length + 1 := by simp
    have hold : ∀ i, i < ns.length → nodAt (ns ++ [X]) i = nodAt ns i := fun i hi => nodAt_app ns X hi
    have hnew : nodAt (ns ++ [X]) ns.length = X := nodAt_new ns X
    have hcod : ∀ i, i < ns.length → codeOk c ps.length (nodAt ns i).cod = true := fun i hi => (h.code i hi).1
    have hPw : wordP c (ps ++ [p]) (nodAt ns P).cod = wordP c ps p.pre := by rw [hw _ (hcod P hn1), hn3]
    have hXw : wordP c (ps ++ [p]) X.cod = wordP c ps p.pre ++ [ub p.byt] := by rw [hX4, hwn]
    have hcas : ∀ i, i < ns.length + 1 → i < ns.length ∨ i = ns.length := fun i hi => by omega
    -- no old node has the new word
    have hfresh : ∀ i, i < ns.length → wordP c ps (nodAt ns i).cod ≠ wordP c ps p.pre ++ [ub p.byt] := fun i hi e => by
      rcases word_split h hi with ⟨_, e2⟩ | ⟨q, hq1, hq2, hq3, e2⟩
      · simp only [] at e2
        rw [e2] at e
        have := congrArg List.length e
        have hne := wordP_pos hok h1
        rw [List.length_append] at this
        simp only [List.length_cons, List.length_nil] at this
        omega
      · simp only [] at e2 hq2
        rw [e2] at e
        obtain ⟨ea, eb⟩ := List.append_inj' e rfl
        have hqP : q = P := h.inj q P (by simp only []; omega) hn1 (by simp only []; rw [ea, hn3])
        obtain ⟨b1, b2, -, -⟩ := h.bytes i hi
        have hb := ub_inj hc (a := (nodAt ns i).las) (b := p.byt) ⟨b1, b2⟩ ⟨h2, h3⟩ (by simpa using eb)
        exact hnone i hi ⟨by rw [hq2, hqP], hb⟩
    refine ⟨by simp [hixl], by simp only [hl]; have := h.lo; simp only [] at this; omega, by simp only [hl, hlen]; have := h.hi; simp only [] at this; omega, fun i hi => ?_, fun i hi1 hi2 => ?_, fun i hi => ?_, fun i hi => ?_, fun i hi => ?_, fun i j hi hj => ?_, fun x hxo => ?_, fun i hi1 hi2 => ?_, fun i hi => ?_, fun i j hi hj e => ?_⟩
    all_goals simp only [hl] at *
    · have := h.lo; simp only [] at this
      rw [hold i (by omega)]; exact h.lit i hi
    · rcases hcas i hi2 with hi | rfl
      · rw [hold i hi]; exact h.par i hi1 hi
      · rw [hnew]; exact ⟨P, hX1, hn1⟩
    · rcases hcas i hi with hi | rfl
      · rw [hold i hi]; exact h.bytes i hi
      · rw [hnew, hX2, hX3]; have := h.bytes P hn1; exact ⟨h2, h3, this.2.2.1, this.2.2.2⟩
    · rcases hcas i hi with hi | rfl
      · rw [hold i hi]; exact ⟨hcm _ (hcod i hi), (h.code i hi).2⟩
      · rw [hnew, hX4, codeOk_iff, hlen]; omega
    · rcases hcas i hi with hi | rfl
      · rw [hold i hi, nodeOf_app (ns := ns) (by rw [hixl]; exact hcod i hi)]; exact h.back i hi
      · rw [hnew, hX4, ← hixl]; exact nodeOf_new
    · rcases hcas j hj with hj | rfl
      · rw [hold i (by omega), hold j hj]; exact h.inc i j hi hj
      · rw [hold i hi, hnew, hX4]; have := hcod i hi; rw [codeOk_iff] at this; omega
    · rw [hlen] at hxo
      rcases codeOk_new hxo with hxo | rfl
      · rw [nodeOf_app (ns := ns) (by rw [hixl]; exact hxo)]
        obtain ⟨a1, a2, a3⟩ := h.node x hxo
        simp only [] at a1 a2 a3
        rw [hold _ a1, hw _ (hcod _ a1), hw _ hxo]
        exact ⟨by omega, a2, a3⟩
      · have e : nodeOf c ⟨ns ++ [X], ix ++ [ns.length]⟩ ((c : Int) + 2 + ps.length) = ns.length := by rw [← hixl]; exact nodeOf_new
        rw [e, hnew, hX4]
        exact ⟨by omega, by omega, rfl⟩
    · rcases hcas i hi2 with hi | rfl
      · obtain ⟨q, hq1, hq2⟩ := h.par i hi1 hi
        have := h.word i hi1 hi
        simp only [] at this hq1
        rw [hold i hi, hw _ (hcod i hi), this, hq1, Int.toNat_natCast, hold q (by omega), hw _ (hcod q (by omega))]
      · rw [hnew, hXw, hX1, hX2, Int.toNat_natCast, hold P hn1, hPw]
    · rcases hcas i hi with hi | rfl
      · rw [hold i hi, hw _ (hcod i hi)]; exact h.first i hi
      · rw [hnew, hXw, hX3]
        have := h.first P hn1
        simp only [] at this
        rw [hn3] at this
        rw [← this]
        have hne := wordP_pos hok h1
        rw [List.getD_eq_getElem?_getD, List.getD_eq_getElem?_getD, List.getElem?_append_left (by omega)]
    · rcases hcas i hi with hi | rfl <;> rcases hcas j hj with hj | rfl
      · rw [hold i hi, hold j hj, hw _ (hcod i hi), hw _ (hcod j hj)] at e; exact h.inj i j hi hj e
      · rw [hold i hi, hnew, hXw, hw _ (hcod i hi)] at e; exact absurd e (hfresh i hi)
      · rw [hold j hj, hnew, hXw, hw _ (hcod j hj)] at e; exact absurd e.symm (hfresh j hj)
      · rfl
  · -- a node that is there
    rw [learnT_old (t := ⟨ns, ix⟩) hf]
    simp only [] at *
    obtain ⟨j, hj, hje, hj1, hj2⟩ : ∃ j : Nat, j < ns.length ∧ findCh ns (nodeOf c ⟨ns, ix⟩ p.pre) p.byt ns.length = j ∧ (nodAt ns j).par = (nodeOf c ⟨ns, ix⟩ p.pre : Nat) ∧ (nodAt ns j).las = p.byt := by
      rcases findCh_cases ns (nodeOf c ⟨ns, ix⟩ p.pre) p.byt ns.length with ⟨hj, _⟩ | hj
      · omega
      · exact hj
    rw [hje, Int.toNat_natCast]
    have hcod : ∀ i, i < ns.length → codeOk c ps.length (nodAt ns i).cod = true := fun i hi => (h.code i hi).1
    have hjc : c ≤ j := by
      rcases Nat.lt_or_ge j c with hl | hl
      · have := h.lit j hl
        simp only [] at this
        rw [this] at hj1
        simp only [] at hj1; omega
      · exact hl
    have hjw : wordP c ps (nodAt ns j).cod = wordP c ps p.pre ++ [ub p.byt] := by
      have := h.word j hjc hj
      simp only [] at this
      rw [this, hj1, hj2, Int.toNat_natCast, hn3]
    refine ⟨by simp [hixl], h.lo, by simp only [hlen]; have := h.hi; simp only [] at this; omega, h.lit, h.par, h.bytes, fun i hi => ⟨hcm _ (hcod i hi), (h.code i hi).2⟩, fun i hi => ?_, h.inc, fun x hxo => ?_, fun i hi1 hi2 => ?_, fun i hi => ?_, fun a b ha hb e => ?_⟩
    all_goals simp only [] at *
    · rw [nodeOf_app (ns := ns) (by rw [hixl]; exact hcod i hi)]; exact h.back i hi
    · rw [hlen] at hxo
      rcases codeOk_new hxo with hxo | rfl
      · rw [nodeOf_app (ns := ns) (by rw [hixl]; exact hxo)]
        obtain ⟨a1, a2, a3⟩ := h.node x hxo
        simp only [] at a1 a2 a3
        rw [hw _ (hcod _ a1), hw _ hxo]
        exact ⟨a1, a2, a3⟩
      · have e : nodeOf c ⟨ns, ix ++ [j]⟩ ((c : Int) + 2 + ps.length) = j := by rw [← hixl]; exact nodeOf_new
        rw [e, hw _ (hcod j hj), hjw, hwn]
        have := hcod j hj
        rw [codeOk_iff] at this
        exact ⟨hj, by omega, rfl⟩
    · obtain ⟨q, hq1, hq2⟩ := h.par i hi1 hi2
      have := h.word i hi1 hi2
      simp only [] at this hq1
      rw [hw _ (hcod i hi2), this, hq1, Int.toNat_natCast, hw _ (hcod q (by omega))]
    · rw [hw _ (hcod i hi)]; exact h.first i hi
    · rw [hw _ (hcod a ha), hw _ (hcod b hb)] at e; exact h.inj a b ha hb e
theorem treeF_ok {c : Nat} (hc : c ≤ 256) {ps : List PairD} (hok : PrsOk c ps) : TrOk c ps (treeF c ps) := by
  induction ps using snoc_ind with
  | h0 => exact trOk_nil hc
  | h1 l a ih =>
    have hl : PrsOk c l := by have := hok.take l.length; rwa [List.take_left] at this
    have ha := hok.get (i := l.length) (by simp)
    simp only [List.getElem_append_right (Nat.le_refl _), Nat.sub_self, List.getElem_cons_zero] at ha
    rw [treeF_snoc]
    exact trOk_learn hc (ih hl) hl ha.1 ha.2.1 ha.2.2
end Go.Proofs.YtekogcjdaolcbaaGreatDoor
/- Plain facts on the program's tree of words: what a clear code leaves of it, and that the deepest node that begins data gives the longest word and its code. Conditions: what is known is valid (KnD.Ok). -/
namespace Go.Proofs.YtekogcjdaolcbaaGreatDoor
open Go.RowKit
theorem learnT_app (c : Nat) (t : TreD) (p : PairD) : ∃ N X, (learnT c t p).ns = t.ns ++ N ∧ (learnT c t p).ix = t.ix ++ X ∧ X.length = 1 ∧ ∀ x ∈ N, x.cod = (c : Int) + 2 + t.ix.length := by
  by_cases hf : findCh t.ns (nodeOf c t p.pre) p.byt t.ns.length < 0
  · rw [learnT_new hf]
    exact ⟨_, _, rfl, rfl, rfl, fun x hx => by simp only [List.mem_singleton] at hx; rw [hx]⟩
  · rw [learnT_old hf]
    exact ⟨[], _, by simp, rfl, rfl, fun x hx => by cases hx⟩
theorem treeF_ixl (c : Nat) (ps : List PairD) : (treeF c ps).ix.length = ps.length := by
  induction ps using snoc_ind with
  | h0 => rfl
  | h1 l a ih =>
    obtain ⟨N, X, _, h2, h3, _⟩ := learnT_app c (treeF c l) a
    rw [treeF_snoc, h2, List.length_append, ih, h3]; simp
namespace KnD
def tree (k : KnD) : TreD := treeF k.c k.ps
end KnD
theorem KnD.Ok.tree {k : KnD} (h : k.Ok) : TrOk k.c k.ps k.tree := treeF_ok h.c_bd.2.1 h.ps
theorem KnD.longN_max {k : KnD} {d : List UInt8} {n : Nat} : ∀ i, i < n → (k.any ((k.c : Int) + 2 + i)).length ≤ d.length → d.take (k.any ((k.c : Int) + 2 + i)).length = k.any ((k.c : Int) + 2 + i) → (k.any ((k.c : Int) + 2 + i)).length ≤ (k.longN d n).length := by
  induction n with
  | zero => intro i hi; exact absurd hi (Nat.not_lt_zero _)
  | succ n ih =>
    intro i hi h1 h2
    have hmono : (k.longN d n).length ≤ (k.longN d (n + 1)).length := by
      rw [KnD.longN]
      split
      · next h => omega
      · exact Nat.le_refl _
    rcases Nat.lt_or_ge i n with hl | hl
    · exact Nat.le_trans (ih i hl h1 h2) hmono
    · have e : i = n := by omega
      subst e
      rw [KnD.longN]
      split
      · exact Nat.le_refl _
      · next h =>
        rcases Nat.lt_or_ge (k.longN d i).length (k.any ((k.c : Int) + 2 + i)).length with h4 | h4
        · exact absurd ⟨h4, h1, h2⟩ h
        · exact h4
theorem KnD.longest_max {k : KnD} (hk : k.Ok) {d : List UInt8} (hd : d ≠ []) {x : Int} (hf : k.follows x = true) {m : Nat} (hm : m ≤ d.length) (hw : k.any x = d.take m) : m ≤ (k.longest d).length := by
  have hl : (k.any x).length = m := by rw [hw, List.length_take]; omega
  rcases (by
    rcases KnD.follows_cases hk hf with hc | ⟨hg, rfl, _⟩
    · rcases codeOk_iff.1 hc with h | h
      · exact .inl h
      · refine .inr ⟨(x - k.c - 2).toNat, ?_, by omega⟩
        rw [KnD.cnt_eq]; omega
    · refine .inr ⟨k.ps.length, ?_, by unfold KnD.next; omega⟩
      rw [KnD.cnt_eq, hg]; simp : (0 ≤ x ∧ x < k.c) ∨ ∃ i : Nat, i < k.cnt ∧ x = (k.c : Int) + 2 + i) with h | ⟨i, h1, rfl⟩
  · rw [KnD.any_lit hk h.1 h.2] at hl
    have := KnD.longest_pos (k := k) hd
    simp at hl; omega
  · have := KnD.longN_max (k := k) (d := d) (n := k.cnt) i h1 (by omega) (by rw [hl, hw])
    unfold KnD.longest; omega
theorem KnD.find_least {k : KnD} (hk : k.Ok) {w : List UInt8} {y : Int} (hf : k.follows y = true) (hy : k.any y = w) : k.find w ≤ y := by
  have hy2 : (0 ≤ y ∧ y < k.c) ∨ ∃ i : Nat, i < k.cnt ∧ y = (k.c : Int) + 2 + i := by
    rcases KnD.follows_cases hk hf with hc | ⟨hg, rfl, _⟩
    · rcases codeOk_iff.1 hc with h | h
      · exact .inl h
      · refine .inr ⟨(y - k.c - 2).toNat, ?_, by omega⟩
        rw [KnD.cnt_eq]; omega
    · refine .inr ⟨k.ps.length, ?_, by unfold KnD.next; omega⟩
      rw [KnD.cnt_eq, hg]; simp
  have hcb := hk.c_bd
  by_cases hl : w.length = 1 ∧ (w.getD 0 0).toNat < k.c
  · rw [KnD.find_lit hl]
    rcases hy2 with h | ⟨i, h1, rfl⟩
    · rw [KnD.any_lit hk h.1 h.2] at hy
      rw [← hy]
      have := ub_nat h.1 (by omega : y < 256)
      simp only [List.getD_cons_zero]; omega
    · omega
  · have hyc : ∃ i : Nat, i < k.cnt ∧ y = (k.c : Int) + 2 + i := by
      rcases hy2 with h | h
      · exfalso
        apply hl
        rw [← hy, KnD.any_lit hk h.1 h.2]
        have := ub_nat h.1 (by omega : y < 256)
        exact ⟨rfl, by simp only [List.getD_cons_zero]; omega⟩
      · exact h
    obtain ⟨i, hi, rfl⟩ := hyc
    unfold KnD.find
    rw [if_neg hl]
    cases hq : (List.range k.cnt).find? (fun (i : Nat) => k.any ((k.c : Int) + 2 + i) == w) with
    | none => show (-1 : Int) ≤ _; omega
    | some j =>
      rw [List.find?_range_eq_some] at hq
      obtain ⟨-, -, h3⟩ := hq
      simp only []
      rcases Nat.lt_or_ge i j with h4 | h4
      · have := h3 i h4
        simp [hy] at this
      · omega
theorem deep_none {c : Nat} (hc : c ≤ 256) {ps : List PairD} {t : TreD} (h : TrOk c ps t) {d : List UInt8} (hl : ∀ b ∈ d, b.toNat < c) {n size : Nat} (hn : n < t.ns.length) (hs1 : 1 ≤ size) (hw : wordP c ps (nodAt t.ns n).cod = d.take size)
    (hstop : size = d.length ∨ ∃ b, d[size]? = some b ∧ findCh t.ns n (b.toNat : Int) t.ns.length = -1) : ∀ m, size < m → m ≤ d.length → ∀ i, i < t.ns.length → wordP c ps (nodAt t.ns i).cod ≠ d.take m := by
  intro m
  induction m with
  | zero => intro hm; omega
  | succ m ih =>
    intro hm1 hm2 i hi e
    have hdm : d.take (m + 1) = d.take m ++ [d[m]'(by omega)] := List.take_succ_eq_append_getElem (by omega)
    rcases word_split h hi with ⟨_, e2⟩ | ⟨p, hp1, hp2, hp3, e2⟩
    · rw [e2] at e
      have := congrArg List.length e
      rw [List.length_take] at this
      simp at this; omega
    · rw [e2, hdm] at e
      obtain ⟨ea, eb⟩ := List.append_inj' e rfl
      rcases Nat.lt_or_ge size m with hl2 | hl2
      · exact ih hl2 (by omega) p (by omega) ea
      · have hms : m = size := by omega
        subst hms
        rcases hstop with hst | ⟨b, hb1, hb2⟩
        · omega
        · have hpn : p = n := h.inj p n (by omega) hn (by rw [ea, hw])
          have hbd : d[m]'(by omega) = b := by rw [List.getElem?_eq_getElem (by omega)] at hb1; exact Option.some.inj hb1
          have hbl := hl b (List.mem_of_getElem? hb1)
          obtain ⟨b1, b2, -, -⟩ := h.bytes i hi
          have hlas : (nodAt t.ns i).las = (b.toNat : Int) := by
            rw [hbd] at eb
            have h5 : ub (nodAt t.ns i).las = ub (b.toNat : Int) := by rw [ub_self]; simpa using eb
            exact ub_inj hc ⟨b1, b2⟩ ⟨by omega, by omega⟩ h5
          rcases findCh_cases t.ns n (b.toNat : Int) t.ns.length with ⟨_, h6⟩ | ⟨j, h6, h7, _⟩
          · exact h6 i hi ⟨by rw [hp2, hpn], hlas⟩
          · omega
theorem KnD.deep_longest {k : KnD} (hk : k.Ok) {d : List UInt8} (hl : ∀ b ∈ d, b.toNat < k.c) {n size : Nat} (hn : n < k.tree.ns.length) (hs1 : 1 ≤ size) (hs2 : size ≤ d.length) (hw : k.word (nodAt k.tree.ns n).cod = d.take size)
    (hstop : size = d.length ∨ ∃ b, d[size]? = some b ∧ findCh k.tree.ns n (b.toNat : Int) k.tree.ns.length = -1) :
    if ∃ b, d[size]? = some b ∧ k.grow = true ∧ n = nodeOf k.c k.tree k.last ∧ (b.toNat : Int) = (nodAt k.tree.ns n).fir then k.find (k.longest d) = k.next ∧ (k.longest d).length = size + 1
    else k.find (k.longest d) = (nodAt k.tree.ns n).cod ∧ (k.longest d).length = size := by
  have hT := hk.tree
  have hcb := hk.c_bd
  have hd : d ≠ [] := by intro e; subst e; simp at hs2; omega
  have hnone := deep_none hcb.2.1 hT hl hn hs1 hw hstop
  obtain ⟨hf, ha⟩ := KnD.find_any hk hd hl
  have htk := KnD.longest_take (k := k) d
  have hle := KnD.longest_le (k := k) d
  have hcn := (hT.code n hn).1
  have hfn : k.follows (nodAt k.tree.ns n).cod = true := by unfold KnD.follows; rw [hcn]; rfl
  have han : k.any (nodAt k.tree.ns n).cod = d.take size := by rw [KnD.any_word hcn, hw]
  have hge : size ≤ (k.longest d).length := KnD.longest_max hk hd hfn hs2 han
  -- a code whose word has been learned has a node
  have hcode : ∀ x m, codeOk k.c k.ps.length x = true → m ≤ d.length → k.word x = d.take m → m ≤ size := fun x m hx hm he => by
    rcases Nat.lt_or_ge size m with h | h
    · obtain ⟨a1, a2, a3⟩ := hT.node x hx
      exact absurd (a3.trans he) (hnone m h hm _ a1)
    · exact h
  have hgrow : ∀ hg : k.grow = true, codeOk k.c k.ps.length k.last = true := fun hg => hk.lastOk hg
  split
  · next hA =>
    obtain ⟨b, hb1, hg, hnl, hbf⟩ := hA
    have hlast := hgrow hg
    have hsd : size < d.length := (List.getElem?_eq_some_iff.1 hb1).1
    obtain ⟨a1, a2, a3⟩ := hT.node k.last hlast
    rw [← hnl] at a3
    have hlw : k.word k.last = d.take size := by rw [← hw]; exact a3.symm
    have hbe : d[size]'hsd = b := by rw [List.getElem?_eq_getElem hsd] at hb1; exact Option.some.inj hb1
    have hfst := hT.first n hn
    have hany : k.any k.next = d.take (size + 1) := by
      unfold KnD.any
      rw [if_pos rfl, hlw, List.take_succ_eq_append_getElem hsd, hbe]
      congr 1
      have h1 : (k.word (nodAt k.tree.ns n).cod).getD 0 0 = ub (nodAt k.tree.ns n).fir := hfst
      rw [hw, ← hbf, ub_self] at h1
      cases hds : d.take size with
      | nil =>
        have := congrArg List.length hds
        rw [List.length_take, List.length_nil] at this; omega
      | cons y l =>
        rw [hds] at h1
        simp at h1
        simp [h1]
    have hfx : k.follows k.next = true := by unfold KnD.follows; rw [hg]; simp
    have hge2 : size + 1 ≤ (k.longest d).length := KnD.longest_max hk hd hfx (by omega) hany
    have hnx : k.find (k.longest d) = k.next := by
      rcases KnD.follows_cases hk hf with hc | ⟨_, he, _⟩
      · have := hcode _ (k.longest d).length hc hle (by rw [← KnD.any_word hc, ha, htk])
        omega
      · exact he
    refine ⟨hnx, ?_⟩
    rw [← ha, hnx, hany, List.length_take]; omega
  · next hA =>
    have hlen : (k.longest d).length = size := by
      rcases KnD.follows_cases hk hf with hc | ⟨hg, he, hlast⟩
      · have := hcode _ (k.longest d).length hc hle (by rw [← KnD.any_word hc, ha, htk])
        omega
      · -- the word to come
        rw [he] at ha
        have ha2 : k.word k.last ++ (k.word k.last).take 1 = k.longest d := by rw [← ha]; unfold KnD.any; rw [if_pos rfl]
        have hp : 1 ≤ (k.word k.last).length := wordP_pos hk.ps hlast
        have hL : (k.longest d).length = (k.word k.last).length + 1 := by rw [← ha2, List.length_append, List.length_take]; omega
        have hlw : k.word k.last = d.take (k.word k.last).length := by
          have h1 : k.word k.last = (k.longest d).take (k.word k.last).length := by rw [← ha2, List.take_left]
          rw [← htk, List.take_take, Nat.min_eq_left (by omega)] at h1
          exact h1
        have hls := hcode k.last _ hlast (by omega) hlw
        rcases Nat.lt_or_ge (k.word k.last).length size with h | h
        · omega
        · exfalso
          have hes : (k.word k.last).length = size := by omega
          have hsd : size < d.length := by omega
          apply hA
          obtain ⟨a1, a2, a3⟩ := hT.node k.last hlast
          have hnl : n = nodeOf k.c k.tree k.last := hT.inj n _ hn a1 (by rw [a3]; show k.word (nodAt k.tree.ns n).cod = k.word k.last; rw [hw, hlw, hes])
          refine ⟨d[size]'hsd, List.getElem?_eq_getElem hsd, hg, hnl, ?_⟩
          have hfst := hT.first n hn
          obtain ⟨-, -, f1, f2⟩ := hT.bytes n hn
          have h1 : (k.word (nodAt k.tree.ns n).cod).getD 0 0 = ub (nodAt k.tree.ns n).fir := hfst
          rw [hw, ← hes, ← hlw] at h1
          -- the last byte of the longest word is the first one
          have h2 : (k.longest d)[size]? = some (d[size]'hsd) := by
            rw [← htk, List.getElem?_take, if_pos (by omega), List.getElem?_eq_getElem hsd]
          rw [← ha2, List.getElem?_append_right (by omega), hes, Nat.sub_self] at h2
          have h3 : (k.word k.last).getD 0 0 = d[size]'hsd := by
            cases hwl : k.word k.last with
            | nil => rw [hwl] at hp; simp at hp
            | cons y l => rw [hwl] at h2; simpa using h2
          rw [h3] at h1
          have h4 := hl _ (List.getElem_mem hsd)
          rw [h1]
          exact ub_nat f1 (by omega)
    refine ⟨?_, hlen⟩
    have hL : k.longest d = d.take size := by rw [← htk, hlen]
    have h1 := KnD.find_least hk hfn (han.trans hL.symm)
    rcases KnD.follows_cases hk hf with hc | ⟨hg, he, hlast⟩
    · obtain ⟨a1, a2, a3⟩ := hT.node _ hc
      have h2 : k.word (k.find (k.longest d)) = d.take size := by rw [← KnD.any_word hc, ha, hL]
      have h3 : nodeOf k.c k.tree (k.find (k.longest d)) = n := hT.inj _ n a1 hn (by rw [a3]; exact h2.trans hw.symm)
      rw [h3] at a2
      omega
    · rw [codeOk_iff] at hcn
      rw [he] at h1 ⊢
      unfold KnD.next at *; omega
end Go.Proofs.YtekogcjdaolcbaaGreatDoor

/- The program's tree of words in memory; walks of the functions that only read it. Conditions: the tree lies in memory (TreeAt). -/
namespace Go.Proofs.YtekogcjdaolcbaaGreatDoor
open Go Go.RowKit
def nodC (ns : List NodD) (m i : Nat) : List Value :=
  [.int .i64 (nodAt ns i).par, .int .i64 (lastCh ns i m), .int .i64 (if (nodAt ns i).par < 0 then -1 else lastCh ns (nodAt ns i).par i), .int .u8 (nodAt ns i).las, .int .u8 (nodAt ns i).fir, .int .i64 (nodAt ns i).cod]
def cellsN (ns : List NodD) : List Value := (List.range ns.length).flatMap (nodC ns ns.length)
theorem flat_len {α : Type} (f : α → List Value) (k : Nat) (h : ∀ a, (f a).length = k) (l : List α) : (l.flatMap f).length = l.length * k := by
  induction l with
  | nil => simp
  | cons a l ih => rw [List.flatMap_cons, List.length_append, ih, h, List.length_cons, Nat.add_mul]; omega
theorem flat_get {α : Type} (f : α → List Value) (k : Nat) (h : ∀ a, (f a).length = k) (l : List α) (i j : Nat) (a : α) (ha : l[i]? = some a) (hj : j < k) : (l.flatMap f)[i * k + j]? = (f a)[j]? := by
  induction l generalizing i with
  | nil => simp at ha
  | cons b l ih =>
    rw [List.flatMap_cons]
    cases i with
    | zero =>
      simp at ha; subst ha
      rw [List.getElem?_append_left (by rw [h]; omega)]
      simp
    | succ i =>
      rw [List.getElem?_append_right (by rw [h, Nat.add_mul]; omega), h, ← ih i (by simpa using ha)]
      congr 1
      rw [Nat.add_mul]; omega
theorem nodC_length (ns : List NodD) (m i : Nat) : (nodC ns m i).length = 6 := rfl
theorem cellsN_length (ns : List NodD) : (cellsN ns).length = ns.length * 6 := by
  unfold cellsN; rw [flat_len _ 6 (nodC_length ns ns.length)]; simp
theorem cellsN_get (ns : List NodD) {i j : Nat} (hi : i < ns.length) (hj : j < 6) : (cellsN ns)[i * 6 + j]? = (nodC ns ns.length i)[j]? :=
  flat_get _ 6 (nodC_length ns ns.length) _ i j i (by simp [hi]) hj
def TrBox (tb : Nat) (k : KnD) (vp vn vi : Value) (w : World) : Prop := w.heap[tb]? = some (.cells #[.int .i64 k.set.ord, .int .i64 k.set.lit, .int .i64 k.set.most, vp, .int .i64 k.base, .int .i64 k.last, vn, vi] 81)
structure TreeAt (lo tb : Nat) (k : KnD) (vp vn vi : Value) (w : World) : Prop where
  box : TrBox tb k vp vn vi w
  low : lo ≤ tb
  prs : w.ownsRow lo 133 2 vp k.ps.length (cellsPr k.ps)
  nod : w.ownsRow lo 125 6 vn k.tree.ns.length (cellsN k.tree.ns)
  idx : w.ownsRow lo 3 1 vi k.tree.ix.length (cellsI (k.tree.ix.map Int.ofNat))
structure KnD.Tr (k : KnD) : Prop where
  set : setOk k.set = true
  ps : PrsOk k.c k.ps
  len : k.ps.length + k.c + 1 ≤ lastC k.set
theorem KnD.Ok.tr {k : KnD} (h : k.Ok) : k.Tr := ⟨h.set, h.ps, h.len⟩
theorem KnD.Tr.c_bd {k : KnD} (h : k.Tr) : 2 ≤ k.c ∧ k.c ≤ 256 ∧ 4 * k.c ≤ lastC k.set + 1 ∧ lastC k.set ≤ 1023 := clr_bd h.set
theorem KnD.Tr.tree {k : KnD} (h : k.Tr) : TrOk k.c k.ps k.tree := treeF_ok h.c_bd.2.1 h.ps
theorem TreeAt.up {lo tb : Nat} {k : KnD} {vp vn vi : Value} {w w' : World} (h : TreeAt lo tb k vp vn vi w) (hu : Up w w') : TreeAt lo tb k vp vn vi w' :=
  ⟨box_up hu h.box, h.low, ownsRow_up h.prs hu, ownsRow_up h.nod hu, ownsRow_up h.idx hu⟩
theorem TreeAt.lt {lo tb : Nat} {k : KnD} {vp vn vi : Value} {w : World} (h : TreeAt lo tb k vp vn vi w) : tb < w.heap.size := (Array.getElem?_eq_some_iff.1 h.box).1
theorem TreeAt.shape {lo tb : Nat} {k : KnD} {vp vn vi : Value} {w : World} (h : TreeAt lo tb k vp vn vi w) : ∃ a c, vp = .slice a k.ps.length c := by
  rcases h.prs.2 with ⟨rfl, e⟩ | ⟨g, cap, cur, rfl, _⟩
  · exact ⟨_, _, by rw [e]⟩
  · exact ⟨_, _, rfl⟩
theorem TreeAt.cells {lo tb : Nat} {k : KnD} {vp vn vi : Value} {w : World} (h : TreeAt lo tb k vp vn vi w) :
    w.cell? ⟨tb, 0, none⟩ = some (.int .i64 k.set.ord) ∧ w.cell? ⟨tb, 1, none⟩ = some (.int .i64 k.set.lit) ∧ w.cell? ⟨tb, 2, none⟩ = some (.int .i64 k.set.most) ∧ w.cell? ⟨tb, 3, none⟩ = some vp ∧ w.cell? ⟨tb, 4, none⟩ = some (.int .i64 k.base) ∧ w.cell? ⟨tb, 5, none⟩ = some (.int .i64 k.last) ∧ w.cell? ⟨tb, 6, none⟩ = some vn ∧ w.cell? ⟨tb, 7, none⟩ = some vi :=
  ⟨box_cell h.box 0, box_cell h.box 1, box_cell h.box 2, box_cell h.box 3, box_cell h.box 4, box_cell h.box 5, box_cell h.box 6, box_cell h.box 7⟩
theorem TreeAt.nodes {lo tb : Nat} {k : KnD} {vp vn vi : Value} {w : World} (h : TreeAt lo tb k vp vn vi w) (hk : k.Tr) : ∃ g cap, vn = .slice (some ⟨g, 0, none⟩) k.tree.ns.length cap ∧ k.tree.ns.length ≤ cap ∧ cap ≤ maxLen ∧ lo ≤ g ∧ g < w.heap.size ∧ g ≠ tb ∧
    ∀ i, i < k.tree.ns.length → w.cell? ⟨g, i * 6, none⟩ = some (.int .i64 (nodAt k.tree.ns i).par) ∧ w.cell? ⟨g, i * 6 + 1, none⟩ = some (.int .i64 (lastCh k.tree.ns i k.tree.ns.length)) ∧ w.cell? ⟨g, i * 6 + 2, none⟩ = some (.int .i64 (if (nodAt k.tree.ns i).par < 0 then -1 else lastCh k.tree.ns (nodAt k.tree.ns i).par i)) ∧
      w.cell? ⟨g, i * 6 + 3, none⟩ = some (.int .u8 (nodAt k.tree.ns i).las) ∧ w.cell? ⟨g, i * 6 + 4, none⟩ = some (.int .u8 (nodAt k.tree.ns i).fir) ∧ w.cell? ⟨g, i * 6 + 5, none⟩ = some (.int .i64 (nodAt k.tree.ns i).cod) := by
  have hlo := hk.tree.lo
  have hc := hk.c_bd
  rcases ownsRow_read h.nod with ⟨_, h2⟩ | ⟨g, cap, rfl, h1, h2, h3, h4, h5⟩
  · omega
  · refine ⟨g, cap, rfl, h1, h2, h3, h4, fun e => box_ne h.box h.nod (by decide) (by rw [e]; rfl), fun i hi => ?_⟩
    have c0 := cellsN_get k.tree.ns hi (j := 0) (by omega)
    exact ⟨h5 _ _ (by have := cellsN_get k.tree.ns hi (j := 0) (by omega); rw [Nat.add_zero] at this; exact this), h5 _ _ (cellsN_get _ hi (j := 1) (by omega)), h5 _ _ (cellsN_get _ hi (j := 2) (by omega)), h5 _ _ (cellsN_get _ hi (j := 3) (by omega)), h5 _ _ (cellsN_get _ hi (j := 4) (by omega)), h5 _ _ (cellsN_get _ hi (j := 5) (by omega))⟩
theorem TreeAt.index {lo tb : Nat} {k : KnD} {vp vn vi : Value} {w : World} (h : TreeAt lo tb k vp vn vi w) : ∃ a cap, vi = .slice a k.ps.length cap ∧ k.ps.length ≤ maxLen ∧ (0 < k.ps.length → ∃ g, a = some ⟨g, 0, none⟩ ∧ k.ps.length ≤ cap ∧ cap ≤ maxLen ∧ lo ≤ g ∧ g < w.heap.size ∧ g ≠ tb ∧
    ∀ i, i < k.ps.length → w.cell? ⟨g, i, none⟩ = some (.int .i64 (k.tree.ix.getD i 0 : Nat))) := by
  have hl : k.tree.ix.length = k.ps.length := treeF_ixl _ _
  obtain ⟨a, cap, e, h1, h2⟩ := ownsRow_any h.idx
  rw [hl] at e h1 h2
  refine ⟨a, cap, e, h1, fun hp => ?_⟩
  obtain ⟨g, rfl, h3, h4, h5, h6, h7⟩ := h2 hp
  refine ⟨g, rfl, h3, h4, h5, h6, fun eg => box_ne h.box h.idx (by decide) (by rw [e, eg]; rfl), fun i hi => ?_⟩
  refine h7 i _ ?_
  have : i < k.tree.ix.length := by omega
  simp [cellsI, this]
set_option maxRecDepth 100000 in
set_option maxHeartbeats 1000000 in
theorem nodeOf_any (lo tb : Nat) (k : KnD) (vp vn vi : Value) (x : Int) (w : World) (h : TreeAt lo tb k vp vn vi w) (hk : k.Tr) (hx : codeOk k.c k.ps.length x = true) :
    Calls Tryz.prog 93  #[.pointer (some ⟨tb, 0, none⟩), .int .i64 x] w (Same (.int .i64 (nodeOf k.c k.tree x : Nat)) w) := by
  have cE := fun w => endI_any k.set w hk.set
  obtain ⟨c0, c1, c2, c3, c4, c5, c6, c7⟩ := h.cells
  have hfr := box_free h.box
  have htb := h.lt
  obtain ⟨a, cap, rfl, hm, hsome⟩ := h.index
  obtain ⟨hb1, hb2, hb3⟩ := clr_le hk.set
  have ec : k.c = clr k.set := rfl
  have hlen := hk.len
  have hcx := codeOk_iff.1 hx
  unfold nodeOf
  rw [ec] at *
  by_cases hxc : x < clr k.set
  · rw [if_pos hxc]
    have h0 : 0 ≤ x := by omega
    have e : ((x.toNat : Nat) : Int) = x := by omega
    rw [e]
    clear hsome
    go_enter Tryz.func93, Tryz.ntmps93
    go_wp2_with ((go_at_call 58; (with_reducible refine (cE _).mono ?_); rintro e w1 ⟨rfl, U1⟩; have B1 := bcell U1; have Z1 := U1.size; (try simp at Z1); (try rw [Nat.add_one_le_iff] at Z1)))
    go_ret
    exact ⟨rfl, by (repeat (first | with_reducible exact Up.refl _ | with_reducible assumption | with_reducible refine Up.set ?_ (by first | exact Nat.le_refl _ | (simp only []; omega) | (simp; omega)) _ | with_reducible refine Up.alloc ?_ _ | with_reducible refine Up.drew ?_ | refine Up.trans ?_ (by with_reducible assumption)))⟩
  · rw [if_neg hxc]
    obtain ⟨i, rfl⟩ : ∃ i : Nat, x = (clr k.set : Int) + 2 + i := ⟨(x - clr k.set - 2).toNat, by omega⟩
    have hi : i < k.ps.length := by omega
    obtain ⟨g, rfl, h1, h2, h3, h4, h5, h6⟩ := hsome (by omega)
    have d0 := h6 i hi
    have e : ((clr k.set : Int) + 2 + i).toNat - (clr k.set + 2) = i := by omega
    rw [e]
    clear hsome h6 hcx hx
    generalize k.tree.ix.getD i 0 = r at *
    generalize clr k.set = c at *
    unfold maxLen at h2
    have e1 : ((c : Int) + 2 + i - (c + 1) - 1) = i := by omega
    go_enter Tryz.func93, Tryz.ntmps93
    go_wp2_with ((go_at_call 58; (with_reducible refine (cE _).mono ?_); rintro e w1 ⟨rfl, U1⟩; have B1 := bcell U1; have Z1 := U1.size; (try simp at Z1); (try rw [Nat.add_one_le_iff] at Z1)); have d1 := (U1.cell (p := ⟨g, i, none⟩) h4).trans d0)
    go_ret
    exact ⟨rfl, by (repeat (first | with_reducible exact Up.refl _ | with_reducible assumption | with_reducible refine Up.set ?_ (by first | exact Nat.le_refl _ | (simp only []; omega) | (simp; omega)) _ | with_reducible refine Up.alloc ?_ _ | with_reducible refine Up.drew ?_ | refine Up.trans ?_ (by with_reducible assumption)))⟩
def RelCh (ns : List NodD) (p : Nat) (b : Int) (w : World) (n : Value) (wr : World) : Prop := ∃ m : Nat, m ≤ ns.length ∧ n = .int .i64 (lastCh ns p m) ∧ findCh ns p b m = findCh ns p b ns.length ∧ w = wr
set_option maxRecDepth 100000 in
set_option maxHeartbeats 1000000 in
theorem child_any (lo tb : Nat) (k : KnD) (vp vn vi : Value) (p : Nat) (b : Int) (w : World) (h : TreeAt lo tb k vp vn vi w) (hk : k.Tr) (hp : p < k.tree.ns.length) :
    Calls Tryz.prog 91  #[.pointer (some ⟨tb, 0, none⟩), .int .i64 p, .int .u8 b] w (fun e w' => e = .returned (.int .i64 (findCh k.tree.ns p b k.tree.ns.length)) ∧ w = w') := by
  obtain ⟨c0, c1, c2, c3, c4, c5, c6, c7⟩ := h.cells
  have hfr := box_free h.box
  have htb := h.lt
  obtain ⟨g, cap, rfl, h1, h2, h3, h4, h5, h6⟩ := h.nodes hk
  obtain ⟨hb1, hb2, hb3⟩ := clr_le hk.set
  have hhi := hk.tree.hi
  have hlen := hk.len
  have hns : k.tree.ns.length ≤ 2000 := by unfold KnD.c at *; omega
  clear hhi hlen hk h
  unfold maxLen at h2
  generalize k.tree.ns = ns at *
  have hp0 := (h6 p hp).2.1
  go_enter Tryz.func91, Tryz.ntmps91
  go_wp2
  go_loopw [7] (fun n wr => RelCh ns p b w n wr) (fun n _ => (intOf n + 1).toNat)
  case atStart => exact ⟨ns.length, Nat.le_refl _, rfl, rfl, rfl⟩
  case round =>
    obtain ⟨m, hm, rfl, hf, rfl⟩ := hrel
    have HF := Lib.hid hf
    clear hf
    rcases lastCh_cases ns p m with ⟨hl, -⟩ | ⟨j, hj, hl, hpj, -⟩
    · have HE := Lib.hid (find_none_last hl b)
      rw [hl]
      go_wp2
      go_ret
      exact ⟨ret_int (by rw [← HF.out, HE.out]), rfl⟩
    · have HL := Lib.hid (find_last hl b)
      obtain ⟨d0, d1, d2, d3, d4, d5⟩ := h6 j (by omega)
      have hjn : j < ns.length := by omega
      have hpn : ¬ (nodAt ns j).par < 0 := by omega
      rw [if_neg hpn, hpj] at d2
      rw [hl]
      by_cases hb : (nodAt ns j).las = b
      · rw [hb] at d3
        go_wp2
        go_ret
        exact ⟨ret_int (by rw [← HF.out, HL.out, if_pos hb]), rfl⟩
      · have hbd := lastCh_bd ns p j
        have HB := Lib.hid hb
        go_wp2
        go_roundw
        case rel => exact ⟨j, by omega, rfl, by rw [← HF.out, HL.out, if_neg hb], rfl⟩
        case measure => simp [intOf]; omega
end Go.Proofs.YtekogcjdaolcbaaGreatDoor

/- What the functions that write the tree of words leave; the nodes' row behind a new node; an append's block. Conditions: as each says. -/
namespace Go.Proofs.YtekogcjdaolcbaaGreatDoor
open Go Go.RowKit
structure Fr (O : Nat → Prop) (w w' : World) : Prop where
  os : w'.os = w.os
  tape : w'.tape = w.tape
  output : w'.output = w.output
  size : w.heap.size ≤ w'.heap.size
  block : ∀ b, b < w.heap.size → ¬ O b → w'.heap[b]? = w.heap[b]?
theorem Fr.refl (O : Nat → Prop) (w : World) : Fr O w w := ⟨rfl, rfl, rfl, Nat.le_refl _, fun _ _ _ => rfl⟩
theorem Fr.trans {O O' : Nat → Prop} {a b c : World} (h : Fr O a b) (k : Fr O' b c) (hO : ∀ x, O' x → O x ∨ a.heap.size ≤ x) : Fr O a c :=
  ⟨k.os.trans h.os, k.tape.trans h.tape, k.output.trans h.output, Nat.le_trans h.size k.size, fun x hx hn => (k.block x (Nat.lt_of_lt_of_le hx h.size) (fun e => by
    rcases hO x e with h1 | h1
    · exact hn h1
    · omega)).trans (h.block x hx hn)⟩
theorem Fr.of {w w' : World} (O : Nat → Prop) (h : Up w w') : Fr O w w' := ⟨h.os, h.tape, h.output, h.size, fun b hb _ => h.block b hb⟩
theorem Fr.up {O : Nat → Prop} {a w w' : World} (h : Fr O a w) (hu : Up w w') : Fr O a w' := h.trans (Fr.of (fun _ => False) hu) (fun _ h => h.elim)
theorem Fr.gr {O : Nat → Prop} {a w w' : World} {row : Option Nat} (h : Fr O a w) (hg : w.grownBy w' row) (hr : ∀ b, row = some b → O b ∨ a.heap.size ≤ b) : Fr O a w' :=
  h.trans (O' := fun b => row = some b) ⟨hg.os, hg.tape, hg.output, hg.size, fun b hb hn => hg.block b hb (fun e => hn e.symm)⟩ hr
theorem Fr.set {O : Nat → Prop} {a w : World} (h : Fr O a w) {p : Addr} (hp : O p.block ∨ a.heap.size ≤ p.block) (u : Value) : Fr O a (w.setCell p u) :=
  h.trans (O' := fun b => p.block = b) ⟨rfl, rfl, rfl, by simp [World.setCell], fun b hb hn => Below.heap_setCell _ _ _ _ (Ne.symm hn)⟩ (fun b e => by subst e; exact hp)
theorem Fr.alloc {O : Nat → Prop} {a w : World} (h : Fr O a w) (o : Obj) : Fr O a (w.alloc o) := h.up ((Up.refl w).alloc o)
theorem Fr.drew {O : Nat → Prop} {a w : World} (h : Fr O a w) : Fr O a w.drew := h.up ((Up.refl w).drew)
theorem Fr.upto {O : Nat → Prop} {a w w' : World} (h : Up a w) (k : Fr O w w') (hO : ∀ b, O b → a.heap.size ≤ b) : Up a w' :=
  ⟨k.os.trans h.os, k.tape.trans h.tape, k.output.trans h.output, Nat.le_trans h.size k.size, fun b hb => (k.block b (Nat.lt_of_lt_of_le hb h.size) (fun e => by have := hO b e; omega)).trans (h.block b hb)⟩
theorem Fr.box {O : Nat → Prop} {w w' : World} (h : Fr O w w') {b : Nat} {o : Obj} (hb : w.heap[b]? = some o) (hn : ¬ O b) : w'.heap[b]? = some o := (h.block b (Array.getElem?_eq_some_iff.1 hb).1 hn).trans hb
theorem Fr.row {O : Nat → Prop} {w w' : World} (h : Fr O w w') {base : Nat} {e : TypeId} {size n : Nat} {v : Value} {xs : List Value} (hr : w.ownsRow base e size v n xs) (hn : ∀ b, v.ownBlock = some b → ¬ O b) : w'.ownsRow base e size v n xs := by
  refine ⟨hr.1, ?_⟩
  rcases hr.2 with h1 | ⟨g, cap, cur, rfl, hb, hg, rest⟩
  · exact .inl h1
  · exact .inr ⟨g, cap, cur, rfl, hb, h.box hg (hn g rfl), rest⟩
def NewOr (N : Nat) (v v' : Value) : Prop := ∀ b, v'.ownBlock = some b → v.ownBlock = some b ∨ N ≤ b
section
variable {P : Program}
theorem run_append_fresh (base : Nat) (t ty e : TypeId) (i : TypeInfo) (z : Value) (size bytes : Nat) (ht : P.underlying t = some (.slice e)) (hi : P.info? e = some i) (hz : i.zero = some z)
    (hsize : i.size = size) (hby : i.bytes = bytes) (hzs : z.cells.size = size) (hsz : 0 < size)
    (w : World) (v : Value) (n : Nat) (xs : List Value) (hown : w.ownsRow base e size v n xs)
    (ad : Addr) (m c : Nat) (news : List Value) (hl : news.length = m * size) (hnews : ∀ j u, news[j]? = some u → w.cell? (ad.add j) = some u) (h1 : ∀ u ∈ news, u.oneCell' = true)
    (h63 : n + m ≤ maxLen) (hbytes : (n + m) * bytes ≤ 140737488355328) {v' : Value} {w' : World} (hr : (Builtin.append_ #[t, t] ty #[v, .slice (some ad) m c]).run P w = .ok v' w') : NewOr w.heap.size v v' := by
  subst hsize hby
  rcases hown.2 with ⟨rfl, rfl⟩ | ⟨g, cap, cur, rfl, hbg, hg, hnc, hcm, hcs, htake⟩
  · have hx : xs = [] := List.eq_nil_of_length_eq_zero (by simpa using hown.1)
    subst hx
    obtain ⟨v2, w2, hr2, h2, -, -⟩ := run_append_own (P := P) w w.heap.size t ty e i z i.size i.bytes ht hi hz rfl rfl hzs hsz (.slice none 0 0) 0 [] (World.ownsRow_nil _ _ _ _) ad m c news hl hnews h1 h63 hbytes (Nat.le_refl _)
    rw [hr] at hr2
    simp only [Result.ok.injEq] at hr2
    obtain ⟨rfl, rfl⟩ := hr2
    exact fun b hb => .inr (h2.lt b hb).1
  · by_cases hroom : n + m ≤ cap
    · have hfit : n * i.size + news.length ≤ cur.size := by rw [hl, hcs, ← Nat.add_mul]; exact Nat.mul_le_mul_right _ hroom
      have hr2 := run_append_room (P := P) w t ty e i ht hi g n cap cur hg ad m c news hl hnews h1 hroom hfit
      rw [hr] at hr2
      simp only [Result.ok.injEq] at hr2
      obtain ⟨rfl, -⟩ := hr2
      exact fun b hb => .inl hb
    · have hr2 := run_append_grow (P := P) w t ty e i z ht hi hz ⟨g, 0, none⟩ n cap xs hown.1 (hown.cells (g := g) rfl) ad m c news hl hnews (by omega) (by unfold maxLen at h63; omega) (growslice_fits (by omega) hbytes)
      rw [hr] at hr2
      simp only [Result.ok.injEq] at hr2
      obtain ⟨rfl, -⟩ := hr2
      intro b hb
      simp only [Value.ownBlock, Option.some.injEq] at hb
      exact .inr (by omega)
theorem gAt_append2 {o : Oper} {a : Act} {w : World} (s x : Operand) (t : TypeId)
    (ho : o.op = .call { callee := .builtin .append, args := #[s, x], argTypes := #[t, t] })
    (base : Nat) (e : TypeId) (i : TypeInfo) (z : Value) (size bytes : Nat) (ht : P.underlying t = some (.slice e)) (hi : P.info? e = some i) (hz : i.zero = some z)
    (hsize : i.size = size) (hby : i.bytes = bytes) (hzs : z.cells.size = size) (hsz : 0 < size)
    (v : Value) (n : Nat) (xs : List Value) (hs : a.eval s = v) (hown : w.ownsRow base e size v n xs)
    (ad : Addr) (m c : Nat) (news : List Value) (hx : a.eval x = .slice (some ad) m c) (hl : news.length = m * size) (hnews : ∀ j u, news[j]? = some u → w.cell? (ad.add j) = some u) (h1 : ∀ u ∈ news, u.oneCell' = true)
    (h63 : n + m ≤ maxLen) (hbytes : (n + m) * bytes ≤ 140737488355328) (hbase : base ≤ w.heap.size) (N : Nat) (hN : N ≤ w.heap.size)
    (row : Option Nat) (hrow : v.ownBlock = row) : gAt P (fun w w' => w.grownBy w' row) o a w (fun v' w' => w'.ownsRow base e size v' (n + m) (xs ++ news) ∧ NewOr N v v') := by
  obtain ⟨v', w', hr, h2, h3, h4⟩ := run_append_own (P := P) w base t o.type e i z size bytes ht hi hz hsize hby hzs hsz v n xs hown ad m c news hl hnews h1 h63 hbytes hbase
  have h5 := run_append_fresh (P := P) base t o.type e i z size bytes ht hi hz hsize hby hzs hsz w v n xs hown ad m c news hl hnews h1 h63 hbytes hr
  unfold gAt execOp
  simp only [ho, resolve, invoke, builtin, Sem.run_bind, Sem.run_pure, Result.andThen_ok, List.map_toArray, List.map_cons, List.map_nil, hs, hx, hr]
  exact ⟨hrow ▸ h3, h2, fun b hb => (h5 b hb).imp id (fun h => Nat.le_trans hN h)⟩
theorem wpList_append2 {ops : Array Oper} {rest : List Oper} {o : Oper} {a : Act} {w : World} {Q : Exit → Act → World → Prop} (hgd : o.guard = none) (s x : Operand) (t : TypeId)
    (ho : o.op = .call { callee := .builtin .append, args := #[s, x], argTypes := #[t, t] })
    (base : Nat) (e : TypeId) (i : TypeInfo) (z : Value) (size bytes : Nat) (ht : P.underlying t = some (.slice e)) (hi : P.info? e = some i) (hz : i.zero = some z)
    (hsize : i.size = size) (hby : i.bytes = bytes) (hzs : z.cells.size = size) (hsz : 0 < size)
    (v : Value) (n : Nat) (xs : List Value) (hs : a.eval s = v) (hown : w.ownsRow base e size v n xs)
    (ad : Addr) (m c : Nat) (news : List Value) (hx : a.eval x = .slice (some ad) m c) (hl : news.length = m * size) (hnews : ∀ j u, news[j]? = some u → w.cell? (ad.add j) = some u) (h1 : ∀ u ∈ news, u.oneCell' = true)
    (h63 : n + m ≤ maxLen) (hbytes : (n + m) * bytes ≤ 140737488355328) (hbase : base ≤ w.heap.size)
    (h : ∀ v' w', w'.ownsRow base e size v' (n + m) (xs ++ news) → w.grownBy w' v.ownBlock → NewOr w.heap.size v v' → wpList P ops Q rest (a.put o.dst v') w') : wpList P ops Q (o :: rest) a w :=
  wpList_plain hgd fun _ hK => by
    obtain ⟨v', w', hr, h2, h3, h4⟩ := run_append_own (P := P) w base t o.type e i z size bytes ht hi hz hsize hby hzs hsz v n xs hown ad m c news hl hnews h1 h63 hbytes hbase
    have h5 := run_append_fresh (P := P) base t o.type e i z size bytes ht hi hz hsize hby hzs hsz w v n xs hown ad m c news hl hnews h1 h63 hbytes hr
    unfold Oper.wp execOp
    simp only [ho, resolve, invoke, builtin, Sem.run_bind, Sem.run_pure, Result.andThen_ok, List.map_toArray, List.map_cons, List.map_nil, hs, hx, hr]
    exact hK _ _ (h v' w' h2 h3 h5)
end
theorem cellsN_at (ns : List NodD) {q : Nat} (h : q < ns.length * 6) : (cellsN ns)[q]? = (nodC ns ns.length (q / 6))[q % 6]? := by
  have := cellsN_get ns (i := q / 6) (j := q % 6) (by omega) (by omega)
  rwa [show q / 6 * 6 + q % 6 = q by omega] at this
def newC (ns : List NodD) (X : NodD) (p : Nat) : List Value := [.int .i64 X.par, .int .i64 (-1), .int .i64 (lastCh ns p ns.length), .int .u8 X.las, .int .u8 X.fir, .int .i64 X.cod]
theorem cellsN_snoc {ns : List NodD} {X : NodD} {p : Nat} (hp : X.par = p) (hlt : p < ns.length) (hpar : ∀ i, i < ns.length → (nodAt ns i).par < (ns.length : Int)) :
    (cellsN ns ++ newC ns X p).set (p * 6 + 1) (.int .i64 ns.length) = cellsN (ns ++ [X]) := by
  have hl : (ns ++ [X]).length = ns.length + 1 := by simp
  have hL1 := cellsN_length ns
  have hL2 := cellsN_length (ns ++ [X])
  rw [hl] at hL2
  apply List.ext_getElem?
  intro q
  rw [List.getElem?_set]
  by_cases hq : q < ns.length * 6
  · have hi : q / 6 < ns.length := by omega
    rw [cellsN_at (ns ++ [X]) (by rw [hl]; omega), hl]
    have hn : nodAt (ns ++ [X]) (q / 6) = nodAt ns (q / 6) := nodAt_app ns X hi
    have hA : lastCh (ns ++ [X]) (nodAt ns (q / 6)).par (q / 6) = lastCh ns (nodAt ns (q / 6)).par (q / 6) := lastCh_app ns X _ _ (by omega)
    have hB : lastCh (ns ++ [X]) ((q / 6 : Nat) : Int) (ns.length + 1) = if p = q / 6 then (ns.length : Int) else lastCh ns ((q / 6 : Nat) : Int) ns.length := by
      rw [lastCh_new, hp]
      by_cases h : p = q / 6
      · rw [if_pos h, if_pos (by rw [h])]
      · rw [if_neg h, if_neg (by omega)]
    by_cases hc : p * 6 + 1 = q
    · rw [if_pos hc, if_pos (by rw [List.length_append, hL1]; simp [newC]; omega)]
      have e1 : q / 6 = p := by omega
      have e2 : q % 6 = 1 := by omega
      rw [e1] at hB
      simp only [e2, e1, nodC, hB, if_true, List.getElem?_cons_succ, List.getElem?_cons_zero]
    · rw [if_neg hc, List.getElem?_append_left (by rw [hL1]; exact hq), cellsN_at ns hq]
      unfold nodC
      rw [hn, hA, hB]
      rcases (by omega : q % 6 = 0 ∨ q % 6 = 1 ∨ q % 6 = 2 ∨ q % 6 = 3 ∨ q % 6 = 4 ∨ q % 6 = 5) with e | e | e | e | e | e
      · rw [e]; rfl
      · have : ¬ p = q / 6 := by omega
        rw [e, if_neg this]
      · rw [e]; rfl
      · rw [e]; rfl
      · rw [e]; rfl
      · rw [e]; rfl
  · rw [if_neg (by omega)]
    by_cases hq2 : q < (ns.length + 1) * 6
    · rw [List.getElem?_append_right (by rw [hL1]; omega), hL1, cellsN_at (ns ++ [X]) (by rw [hl]; exact hq2), hl]
      have e1 : q / 6 = ns.length := by omega
      have hB : lastCh (ns ++ [X]) (ns.length : Int) (ns.length + 1) = -1 := by
        rw [lastCh_new, if_neg (by omega)]
        rcases lastCh_cases ns (ns.length : Int) ns.length with ⟨h, _⟩ | ⟨j, h1, _, h3, _⟩
        · exact h
        · have := hpar j h1; omega
      have hA : lastCh (ns ++ [X]) X.par ns.length = lastCh ns p ns.length := by rw [hp]; exact lastCh_app ns X _ _ (Nat.le_refl _)
      unfold nodC
      rw [e1, nodAt_new, hA, hB, if_neg (by omega)]
      rw [show q % 6 = q - ns.length * 6 by omega]
      rfl
    · rw [List.getElem?_eq_none (by rw [List.length_append, hL1]; simp [newC]; omega), List.getElem?_eq_none (by rw [hL2]; omega)]
theorem newC_one (ns : List NodD) (X : NodD) (p : Nat) : ∀ u ∈ newC ns X p, u.oneCell' = true := by
  intro u hu
  simp only [newC, List.mem_cons, List.not_mem_nil, or_false] at hu
  rcases hu with rfl | rfl | rfl | rfl | rfl | rfl <;> rfl
theorem TrBox.cells {tb : Nat} {k : KnD} {vp vn vi : Value} {w : World} (h : TrBox tb k vp vn vi w) :
    w.cell? ⟨tb, 0, none⟩ = some (.int .i64 k.set.ord) ∧ w.cell? ⟨tb, 1, none⟩ = some (.int .i64 k.set.lit) ∧ w.cell? ⟨tb, 2, none⟩ = some (.int .i64 k.set.most) ∧ w.cell? ⟨tb, 3, none⟩ = some vp ∧ w.cell? ⟨tb, 4, none⟩ = some (.int .i64 k.base) ∧ w.cell? ⟨tb, 5, none⟩ = some (.int .i64 k.last) ∧ w.cell? ⟨tb, 6, none⟩ = some vn ∧ w.cell? ⟨tb, 7, none⟩ = some vi :=
  ⟨box_cell h 0, box_cell h 1, box_cell h 2, box_cell h 3, box_cell h 4, box_cell h 5, box_cell h 6, box_cell h 7⟩
theorem row_ne {w : World} {b1 b2 : Nat} {e1 e2 : TypeId} {s1 s2 n1 n2 n g cap : Nat} {v1 : Value} {x1 x2 : List Value} (h1 : w.ownsRow b1 e1 s1 v1 n1 x1) (h2 : w.ownsRow b2 e2 s2 (.slice (some ⟨g, 0, none⟩) n cap) n2 x2) (hne : e1 ≠ e2) : some g ≠ v1.ownBlock := by
  rcases ownsRow_ne h1 h2 hne with h | h
  · rw [h]; exact fun e => by cases e
  · exact fun e => h e.symm
theorem TreeAt.node1 {lo tb : Nat} {k : KnD} {vp vn vi : Value} {w : World} (h : TreeAt lo tb k vp vn vi w) (hk : k.Tr) {i : Nat} (hi : i < k.tree.ns.length) : ∃ g cap nx, vn = .slice (some ⟨g, 0, none⟩) k.tree.ns.length cap ∧ k.tree.ns.length ≤ cap ∧ cap ≤ maxLen ∧ lo ≤ g ∧ g < w.heap.size ∧ g ≠ tb ∧
    w.cell? ⟨g, i * 6, none⟩ = some (.int .i64 (nodAt k.tree.ns i).par) ∧ w.cell? ⟨g, i * 6 + 1, none⟩ = some (.int .i64 (lastCh k.tree.ns i k.tree.ns.length)) ∧ w.cell? ⟨g, i * 6 + 2, none⟩ = some (.int .i64 nx) ∧
      w.cell? ⟨g, i * 6 + 3, none⟩ = some (.int .u8 (nodAt k.tree.ns i).las) ∧ w.cell? ⟨g, i * 6 + 4, none⟩ = some (.int .u8 (nodAt k.tree.ns i).fir) ∧ w.cell? ⟨g, i * 6 + 5, none⟩ = some (.int .i64 (nodAt k.tree.ns i).cod) := by
  obtain ⟨g, cap, e, h1, h2, h3, h4, h5, h6⟩ := h.nodes hk
  exact ⟨g, cap, _, e, h1, h2, h3, h4, h5, h6 i hi⟩
def Own (tb : Nat) (vp vn vi : Value) (b : Nat) : Prop := b = tb ∨ vp.ownBlock = some b ∨ vn.ownBlock = some b ∨ vi.ownBlock = some b
theorem TreeAt.own_lo {lo tb : Nat} {k : KnD} {vp vn vi : Value} {w : World} (h : TreeAt lo tb k vp vn vi w) : ∀ b, Own tb vp vn vi b → lo ≤ b ∧ b < w.heap.size := by
  intro b hb
  rcases hb with rfl | hb | hb | hb
  · exact ⟨h.low, h.lt⟩
  · exact h.prs.lt b hb
  · exact h.nod.lt b hb
  · exact h.idx.lt b hb
theorem TreeAt.fr {O : Nat → Prop} {lo tb : Nat} {k : KnD} {vp vn vi : Value} {w w' : World} (h : TreeAt lo tb k vp vn vi w) (hf : Fr O w w') (hn : ∀ b, Own tb vp vn vi b → ¬ O b) : TreeAt lo tb k vp vn vi w' :=
  ⟨hf.box h.box (hn tb (.inl rfl)), h.low, hf.row h.prs (fun b hb => hn b (.inr (.inl hb))), hf.row h.nod (fun b hb => hn b (.inr (.inr (.inl hb)))), hf.row h.idx (fun b hb => hn b (.inr (.inr (.inr hb))))⟩
def TrPost (lo tb : Nat) (k : KnD) (vp vn vi : Value) (w w' : World) : Prop := ∃ vp' vn' vi', TreeAt lo tb k vp' vn' vi' w' ∧ Fr (Own tb vp vn vi) w w' ∧ ∀ b, Own tb vp' vn' vi' b → Own tb vp vn vi b ∨ w.heap.size ≤ b
end Go.Proofs.YtekogcjdaolcbaaGreatDoor

/- Appends outside a region: pairs onto nil, a string onto a row of bytes. Conditions: as each says. -/
namespace Go.Proofs.YtekogcjdaolcbaaGreatDoor
open Go Go.RowKit
theorem run_copy_nil {lo : Nat} {w : World} {vx : Value} {ps : List PairD} (ty : TypeId) (hr : RdP lo w vx ps) (hl : ps.length ≤ 1048576) :
    ∃ v' w', (Builtin.append_ #[25, 25] ty #[.slice none 0 0, vx]).run Tryz.prog w = .ok v' w' ∧ ownPr w' w.heap.size v' ps ∧ Up w w' := by
  obtain ⟨i0, hi, hz0, hz1, hz2⟩ := info_parts infoPair
  obtain ⟨ad, cap, rfl, hc1, hc2, hc3, hsome⟩ := hr
  have hn : w.ownsRow w.heap.size 133 2 (.slice none 0 0) 0 [] := World.ownsRow_nil _ _ _ _
  cases ad with
  | none =>
    obtain ⟨h1, h2⟩ := hc3 rfl
    have hps : ps = [] := List.length_eq_zero_iff.1 h1
    subst hps
    have hrun := run_append_owned_none (P := Tryz.prog) (w := w) w.heap.size 25 ty 133 i0 2 Tryz.underlying25 hi _ 0 [] hn
    rw [h2]
    exact ⟨_, _, hrun, hn, Up.refl _⟩
  | some ad =>
    have hnews : ∀ j u, (cellsPr ps)[j]? = some u → w.cell? (ad.add j) = some u := by
      intro j u hj
      by_cases hp : 0 < ps.length
      · obtain ⟨b, off, e1, e2, e3, e4⟩ := hsome hp
        cases e1
        exact RdP.news (lo := lo) (n := 0) (cap := 0) e4 j u hj
      · have hps : ps = [] := List.length_eq_zero_iff.1 (by omega)
        subst hps
        simp [cellsPr] at hj
    obtain ⟨v', w', hr, h2, h3, h4⟩ := run_append_own (P := Tryz.prog) w w.heap.size 25 ty 133 i0 (.agg #[.int .i64 0, .int .i64 0]) 2 16 Tryz.underlying25 hi hz0 hz1 hz2 rfl (by decide) _ 0 [] hn ad ps.length cap (cellsPr ps) (cellsPr_length ps) hnews (cellsPr_one ps) (by unfold maxLen; omega) (by omega) (Nat.le_refl _)
    rw [Nat.zero_add, List.nil_append] at h2
    exact ⟨v', w', hr, h2, Up.grown (Up.refl _) h3 (fun y hy => by cases hy)⟩
theorem wpList_copy {ops : Array Oper} {rest : List Oper} {o : Oper} {a : Act} {w : World} {Q : Exit → Act → World → Prop} (hgd : o.guard = none) (s x : Operand)
    (ho : o.op = .call { callee := .builtin .append, args := #[s, x], argTypes := #[25, 25] }) (hs : a.eval s = .slice none 0 0) {lo : Nat} {vx : Value} {ps : List PairD} (hx : a.eval x = vx) (hr : RdP lo w vx ps) (hl : ps.length ≤ 1048576)
    (h : ∀ v' w', ownPr w' w.heap.size v' ps → Up w w' → wpList Tryz.prog ops Q rest (a.put o.dst v') w') : wpList Tryz.prog ops Q (o :: rest) a w :=
  wpList_plain hgd fun _ hK => by
    obtain ⟨v', w', hr, h2, h3⟩ := run_copy_nil o.type hr hl
    unfold Oper.wp execOp
    simp only [ho, resolve, invoke, builtin, Sem.run_bind, Sem.run_pure, Result.andThen_ok, List.map_toArray, List.map_cons, List.map_nil, hs, hx, hr]
    exact hK _ _ (h v' w' h2 h3)
end Go.Proofs.YtekogcjdaolcbaaGreatDoor

