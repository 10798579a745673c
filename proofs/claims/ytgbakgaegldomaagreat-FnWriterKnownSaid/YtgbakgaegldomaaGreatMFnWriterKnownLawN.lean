/- Texts joined into one: the walks and laws that the last text leans on. Conditions: as each says. -/
import Derived.Test.YtgbakgaegldomaaGreatMFnWriterKnownLawM
import Derived.Test.YtgbakgaegldomaaGreatMFnWriterKnownLawK
import Derived.Test.YtgbakgaegldomaaGreatMFnWriterKnownLawJ
import Derived.Test.YtgbakgaegldomaaGreatMFnWriterKnownLawA
import Derived.Test.YtgbakgaegldomaaGreatMFnWriterKnownLawL
import Derived.Test.YtgbakgaegldomaaGreatMFnWriterKnownLawI
import Derived.Test.YtgbakgaegldomaaGreatMFnWriterKnownLawE

set_option linter.unusedVariables false
set_option linter.unusedSimpArgs false
/- Plain: following the codes of the longest words gives the data again, and one width for each code. Conditions: what is known is valid (KnD.Ok), the data fits. -/
namespace Go.Proofs.YtgbakgaegldomaaGreat
open Go.RowKit
theorem KnD.fol_ne {k : KnD} (h : k.Ok) {x : Int} (hf : k.follows x = true) : x ≠ (k.c : Int) ∧ x ≠ (k.c : Int) + 1 := by
  rcases KnD.follows_cases h hf with hc | ⟨hg, rfl, hl⟩
  · rw [codeOk_iff] at hc; omega
  · unfold KnD.next; omega
theorem walk_greedyN : ∀ (n : Nat) (k : KnD) (d : List UInt8) (ws : List Int) (dat : List UInt8), k.Ok → (∀ b ∈ d, b.toNat < k.c) → d.length ≤ n → dat.length + d.length ≤ 2000 →
    ∃ W : List Int, walkN k (greedyN n k d) ws dat = ⟨ws ++ W, dat ++ d, true⟩ ∧ W.length = (greedyN n k d).length ∧ (∀ w ∈ W, 1 ≤ w ∧ w ≤ 10) ∧ (∀ x ∈ greedyN n k d, 0 ≤ x ∧ x ≤ 1024) := by
  intro n
  induction n with
  | zero =>
    intro k d ws dat hk hl hn hd
    have hb := hk.c_bd
    have hw := KnD.width_bd hk
    have e : d = [] := List.length_eq_zero_iff.1 (by omega)
    subst e
    refine ⟨[(k.width : Int)], ?_, rfl, ?_, ?_⟩
    · show walkN k [(k.c : Int) + 1] ws dat = _
      rw [walkN_end rfl]; simp
    · intro w hw'; simp only [List.mem_singleton] at hw'; subst hw'; omega
    · intro x hx; simp only [greedyN, List.mem_singleton] at hx; subst hx; omega
  | succ n ih =>
    intro k d ws dat hk hl hn hd
    have hb := hk.c_bd
    have hw := KnD.width_bd hk
    by_cases e : d = []
    · subst e
      rw [greedyN_nil]
      refine ⟨[(k.width : Int)], ?_, rfl, ?_, ?_⟩
      · rw [walkN_end rfl]; simp
      · intro w hw'; simp only [List.mem_singleton] at hw'; subst hw'; omega
      · intro x hx; simp only [List.mem_singleton] at hx; subst hx; omega
    · obtain ⟨hf, ha⟩ := KnD.find_any hk e hl
      have hfb := KnD.find_bd hk hf
      obtain ⟨n1, n2⟩ := KnD.fol_ne hk hf
      have hp := KnD.longest_pos (k := k) e
      have hle := KnD.longest_le (k := k) d
      have htk := KnD.longest_take (k := k) d
      have hok2 := KnD.after_ok hk hf
      have hjoin : k.longest d ++ d.drop (k.longest d).length = d := by conv => lhs; arg 1; rw [← htk]
                                                                        exact List.take_append_drop _ _
      have hl2 : ∀ b ∈ d.drop (k.longest d).length, b.toNat < k.c := fun b hb => hl b (List.mem_of_mem_drop hb)
      have hln : (d.drop (k.longest d).length).length ≤ n := by rw [List.length_drop]; omega
      have hd2 : (dat ++ k.longest d).length + (d.drop (k.longest d).length).length ≤ 2000 := by rw [List.length_drop, List.length_append]; omega
      by_cases hfull : (k.after (k.find (k.longest d))).full = true ∧ d.drop (k.longest d).length ≠ []
      · rw [greedyN_full e rfl rfl hfull.1 hfull.2]
        obtain ⟨W, h1, h2, h3, h4⟩ := ih (k.after (k.find (k.longest d))).cleared (d.drop (k.longest d).length) (ws ++ [(k.width : Int)] ++ [((k.after (k.find (k.longest d))).width : Int)]) (dat ++ k.longest d) (KnD.cleared_ok hok2) hl2 hln hd2
        have hw2 := KnD.width_bd hok2
        refine ⟨(k.width : Int) :: ((k.after (k.find (k.longest d))).width : Int) :: W, ?_, by simp [h2], ?_, ?_⟩
        · rw [walkN_word n2 n1 hf (by omega), ha, walkN_clear (k := k.after (k.find (k.longest d))) (x := (k.c : Int)) rfl, h1]
          simp [hjoin]
        · intro w hw'
          simp only [List.mem_cons] at hw'
          rcases hw' with rfl | rfl | hw'
          · omega
          · omega
          · exact h3 w hw'
        · intro x hx
          simp only [List.mem_cons] at hx
          rcases hx with rfl | rfl | hx
          · omega
          · omega
          · exact h4 x hx
      · rw [greedyN_more e rfl rfl hfull]
        obtain ⟨W, h1, h2, h3, h4⟩ := ih (k.after (k.find (k.longest d))) (d.drop (k.longest d).length) (ws ++ [(k.width : Int)]) (dat ++ k.longest d) hok2 hl2 hln hd2
        refine ⟨(k.width : Int) :: W, ?_, by simp [h2], ?_, ?_⟩
        · rw [walkN_word n2 n1 hf (by omega), ha, h1]
          simp [hjoin]
        · intro w hw'
          simp only [List.mem_cons] at hw'
          rcases hw' with rfl | hw'
          · omega
          · exact h3 w hw'
        · intro x hx
          simp only [List.mem_cons] at hx
          rcases hx with rfl | hx
          · omega
          · exact h4 x hx
theorem walk_greedy {k : KnD} {d : List UInt8} (hk : k.Ok) (hl : ∀ b ∈ d, b.toNat < k.c) (hd : d.length ≤ 2000) :
    (walkN k (greedy k d) [] []).ws.length = (greedy k d).length ∧ (walkN k (greedy k d) [] []).data = d ∧ (walkN k (greedy k d) [] []).ok = true ∧ (∀ w ∈ (walkN k (greedy k d) [] []).ws, 1 ≤ w ∧ w ≤ 10) ∧ (∀ x ∈ greedy k d, 0 ≤ x ∧ x ≤ 1024) := by
  obtain ⟨W, h1, h2, h3, h4⟩ := walk_greedyN d.length k.cleared d [(k.width : Int)] [] (KnD.cleared_ok hk) hl (Nat.le_refl _) (by simpa using hd)
  have hb := hk.c_bd
  have hw := KnD.width_bd hk
  have e : walkN k (greedy k d) [] [] = ⟨[(k.width : Int)] ++ W, [] ++ d, true⟩ := by
    unfold greedy
    rw [walkN_clear rfl, List.nil_append, h1]
  rw [e]
  refine ⟨by simp [greedy, h2], rfl, rfl, fun w hw' => ?_, fun x hx => ?_⟩
  · simp only [List.cons_append, List.nil_append, List.mem_cons] at hw'
    rcases hw' with rfl | hw'
    · omega
    · exact h3 w hw'
  · unfold greedy at hx
    simp only [List.mem_cons] at hx
    rcases hx with rfl | hx
    · omega
    · exact h4 x hx
end Go.Proofs.YtgbakgaegldomaaGreat

/- Walks of the reference's LearnKnown and StartWith. Conditions: as each says. -/
namespace Go.Proofs.YtgbakgaegldomaaGreat
open Go Go.RowKit
theorem fitsB_lits {s : SetD} {d : List UInt8} (h : fitsB s d = true) : setOk s = true ∧ d.length ≤ 2000 ∧ ∀ b ∈ d, b.toNat < clr s := by
  unfold fitsB at h
  simp only [Bool.and_eq_true, decide_eq_true_eq] at h
  refine ⟨h.1.1, h.1.2, fun b hb => ?_⟩
  have := h.2
  unfold litsL at this
  rw [List.all_eq_true] at this
  simpa using this b hb
end Go.Proofs.YtgbakgaegldomaaGreat

/- Walks of the reference's l2Compress, Compress and CompressWith. Conditions: what is known is valid and can be read; for CompressWith none but the strings' bound. -/
namespace Go.Proofs.YtgbakgaegldomaaGreat
open Go Go.RowKit
def compL (k : KnD) (d : List UInt8) : List UInt8 := packL k.set.ord (packC k.set.ord (greedy k d) (walkN k (greedy k d) [] []).ws)
def compO (k : KnD) (d : List UInt8) : Option (List UInt8) := if fitsB k.set d then some (compL k d) else none
def compW (s : SetD) (dict d : List UInt8) : Option (List UInt8) := if fitsB s dict then compO (learnK (startK s) dict) d else none
def optS (o : Option (List UInt8)) : Value := .tuple #[.string (bs (o.getD [])), .bool o.isSome]
end Go.Proofs.YtgbakgaegldomaaGreat

/- Walks of the reference's functions that make blocks and containers. Conditions: as each says; for the outer ones none but the strings' bound. -/
namespace Go.Proofs.YtgbakgaegldomaaGreat
open Go Go.RowKit
def blockD (s : SetD) (dict : List UInt8) (n : Int) (d : ByteArray) : BlkD := match compW s dict d.data.toList with
  | some st => if st.length < d.size then ⟨n, false, d.size, bs st⟩ else ⟨n, true, d.size, d⟩
  | none => ⟨n, true, d.size, d⟩
def textD (b : BlkD) : List UInt8 := (textB b.num b.raw b.size b.body).data.toList
def makeN (s : SetD) (dict : List UInt8) (size : Nat) : Nat → Int → List UInt8 → List UInt8
  | 0, _, _ => []
  | n + 1, f, d => if d = [] then [] else textD (blockD s dict f (bs (d.take size))) ++ makeN s dict size n (f + 1) (d.drop size)
theorem makeN_step {s : SetD} {dict : List UInt8} {size n : Nat} {f : Int} {d : List UInt8} (hd : d ≠ []) : makeN s dict size (n + 1) f d = textD (blockD s dict f (bs (d.take size))) ++ makeN s dict size n (f + 1) (d.drop size) := by rw [makeN, if_neg hd]
structure MkAt (T : List UInt8) (s : SetD) (dict : List UInt8) (size : Nat) (w : World) (m : Nat) (f : Int) (d acc : List UInt8) (n : Nat) (wr : World) : Prop where
  tot : acc ++ makeN s dict size n f d = T
  len : d.length ≤ n
  d2 : d.length ≤ 2000
  num : f = 40 - (m : Int)
  m40 : m ≤ 40
  fit : d.length ≤ m * size
  accl : acc.length + 74 * m ≤ 2960
  set : SetAt w.heap.size s.ord s.lit s.most wr
  up : Up w wr
theorem MkAt.step {T : List UInt8} {s : SetD} {dict : List UInt8} {size : Nat} {w : World} {m : Nat} {f : Int} {d acc : List UInt8} {n : Nat} {wr wq : World} (h : MkAt T s dict size w m f d acc n wr) (hd : d ≠ []) (hm : 1 ≤ m) (hn : 1 ≤ n) (hs : 1 ≤ size) (hu : Up wr wq)
    {td : List UInt8} (ht : td = textD (blockD s dict f (bs (d.take size)))) (htl : td.length ≤ 74) : MkAt T s dict size w (m - 1) (f + 1) (d.drop size) (acc ++ td) (n - 1) wq := by
  obtain ⟨m, rfl⟩ : ∃ m', m = m' + 1 := ⟨m - 1, by omega⟩
  obtain ⟨n, rfl⟩ : ∃ n', n = n' + 1 := ⟨n - 1, by omega⟩
  obtain ⟨h1, h2, h3, h4, h5, h6, h7, h8, h9⟩ := h
  have hl := List.length_pos_iff.2 hd
  refine ⟨?_, by rw [List.length_drop]; omega, by rw [List.length_drop]; omega, by omega, by omega, ?_, by rw [List.length_append]; omega, box_up hu h8, h9.trans hu⟩
  · rw [← h1, makeN_step hd, ht, List.append_assoc]; rfl
  · rw [Nat.succ_mul] at h6
    rw [List.length_drop]
    show _ ≤ m * size
    omega
end Go.Proofs.YtgbakgaegldomaaGreat

/- Walks of the reference's draws of dictionaries, settings and containers. Conditions: the reader is one (Rdr), its place is bounded; the setting is valid. -/
namespace Go.Proofs.YtgbakgaegldomaaGreat
open Go Go.RowKit
theorem l1Data_as (m : Int) (n : Nat) (hm : m = n) (rb : Nat) (B : Value) (s : SetD) (w : World) (N : Nat) (h : Rdr rb B w N) (hN : N ≤ 1000000000) (hn : n ≤ 1000) (hs : setOk s = true) :
    Calls Tryz.prog 27  #[.pointer (some ⟨rb, 0, none⟩), setV s, .int .i64 m] w (Drawn rb B 3010 (IsStr n) w) := by subst hm; exact l1Data_any rb B s n w N h hN hn hs
theorem Rdr.least {rb : Nat} {B : Value} {w : World} {N : Nat} (h : Rdr rb B w N) : ∃ p, p ≤ N ∧ Rdr rb B w p ∧ Hid (∀ N', Rdr rb B w N' → p ≤ N') := by
  obtain ⟨⟨p, h1, h2⟩, h3⟩ := h
  refine ⟨p, h1, ⟨⟨p, Nat.le_refl _, h2⟩, h3⟩, fun N' h' => ?_⟩
  obtain ⟨⟨q, g1, g2⟩, _⟩ := h'
  rw [h2] at g2
  simp at g2
  omega
theorem RdUp.made {rb : Nat} {B : Value} {w w' : World} {p C M : Nat} (hm : Hid (∀ N', Rdr rb B w N' → p ≤ N')) (hg : w.grownBy w' (some rb)) (hr : Rdr rb B w' M) (hM : M ≤ p + C) : RdUp rb B C w w' :=
  ⟨hg, fun N' h' => hr.mono (by have := hm N' h'; omega)⟩
end Go.Proofs.YtgbakgaegldomaaGreat

/- Walks of the reference's draws of containers and blocks. Conditions: the reader is one (Rdr), its place is bounded. -/
namespace Go.Proofs.YtgbakgaegldomaaGreat
open Go Go.RowKit
theorem upOut_D {P : Program} (D : Value → World → Prop) {w : World} {r : Result Next} (h : upOut P D w r) : upOut P D w r := h
def LitR (rb : Nat) (v : Value) (w : World) : Prop := ∃ (b : Nat) (x : Int), v = .slice (some ⟨b, 0, none⟩) 1 1 ∧ b < w.heap.size ∧ b ≠ rb ∧ w.cell? ⟨b, 0, none⟩ = some (.int .u8 x)
theorem litR_closed {rb : Nat} : ∀ (v : Value) (w w' : World), LitR rb v w → w.grownBy w' (some rb) → LitR rb v w' := fun v w w' ⟨b, x, h1, h2, h3, h4⟩ hg =>
  ⟨b, x, h1, Nat.lt_of_lt_of_le h2 hg.size, h3, ((gcell hg).1 b 0 h2 (fun e => h3 (Option.some.inj e))).trans h4⟩
theorem litR_new {rb : Nat} {w : World} {x : Int} (hlt : rb < w.heap.size) (h0 : 0 ≤ x) (h1 : x ≤ 255) : LitR rb (.slice (some ⟨w.heap.size, 0, none⟩) 1 1) (w.alloc (.cells #[.int .u8 x] 5)) :=
  ⟨w.heap.size, x, rfl, by simp, by omega, by rw [box_cell (MapKept.heap_alloc w _).1]; rfl⟩
def LitS (v : Value) (w : World) (x : Int) : Prop := (convert 22 9 v).run Tryz.prog w = .ok (.string (strOfNums [x])) w
theorem litR_open {rb : Nat} {v : Value} {w : World} (h : LitR rb v w) : ∃ x, LitS v w x := by
  obtain ⟨b, x, rfl, -, -, h4⟩ := h
  exact ⟨x, conv_one w b x h4⟩
theorem litR_conv {v : Value} {w : World} {x : Int} (h : LitS v w x) : (convert 22 9 v).run Tryz.prog w = .ok (.string (strOfNums [x])) w := h
theorem draw_atM {rb : Nat} {B : Value} {c d N M : Nat} {w0 w1 w : World} {D : Value → Prop} {f : FuncId} {args : Array Value} (hf : ∀ w N, Rdr rb B w N → N ≤ M → Calls Tryz.prog f args w (Drawn rb B d D w)) (h : Rdr rb B w0 N) (hU1 : RdUp rb B c w0 w1) (hx : ∀ c, RdUp rb B c w0 w1 → RdUp rb B c w0 w) (hN : N + c ≤ M) :
    Calls Tryz.prog f args w (fun e w' => ∃ v, e = .returned v ∧ D v ∧ RdUp rb B (c + d) w0 w' ∧ RdUp rb B d w w') :=
  (hf w (N + c) ((hx c hU1).2 N h) hN).mono fun e w' ⟨v, he, h1, hu⟩ => ⟨v, he, h1, (hx c hU1).trans hu, hu⟩
end Go.Proofs.YtgbakgaegldomaaGreat

/- Walks of the reference's draws of a block, from the bytes of an input. Conditions: the bytes can be read. -/
namespace Go.Proofs.YtgbakgaegldomaaGreat
open Go Go.RowKit
def ArgU (w : World) (v : Value) (l : List UInt8) : Prop := ∃ (a : Option Addr) (cap : Nat), v = .slice a l.length cap ∧ l.length ≤ cap ∧ cap ≤ maxLen ∧
  (0 < l.length → ∃ b off, a = some ⟨b, off, none⟩ ∧ b < w.heap.size ∧ ∀ i x, l[i]? = some x → w.cell? ⟨b, off + i, none⟩ = some (.int .u8 x.toNat))
theorem ArgU.up {w w' : World} {v : Value} {l : List UInt8} (h : ArgU w v l) (hu : Up w w') : ArgU w' v l := by
  obtain ⟨a, cap, h1, h2, h3, h4⟩ := h
  refine ⟨a, cap, h1, h2, h3, fun hp => ?_⟩
  obtain ⟨b, off, e1, e2, e3⟩ := h4 hp
  exact ⟨b, off, e1, Nat.lt_of_lt_of_le e2 (Below.size hu), fun i x hi => (Below.cell (p := ⟨b, off + i, none⟩) hu e2).trans (e3 i x hi)⟩
theorem open_at {w : World} {v : Value} {l : List UInt8} (h : ArgU w v l) : Calls Tryz.prog 24  #[v] w (fun e w' => ∃ B, e = .returned (.pointer (some ⟨w.heap.size, 0, none⟩)) ∧ Rdr w.heap.size B w' 0 ∧ Up w w') := by
  obtain ⟨a, cap, h1, h2, h3, h4⟩ := h
  exact open_any v l w a cap h1 h2 h3 h4
end Go.Proofs.YtgbakgaegldomaaGreat

/- Walk of the reference's l5Places. Conditions: the blocks are those of a string (accOk) and can be read. -/
namespace Go.Proofs.YtgbakgaegldomaaGreat
open Go.RowKit
structure PlaceD where
  place : Int
  start : Int
end Go.Proofs.YtgbakgaegldomaaGreat

/- Walks of the reference's draws of data that may not fit, of settings that may not be valid, of dictionaries. Conditions: the reader is one (Rdr), its place is bounded. -/
namespace Go.Proofs.YtgbakgaegldomaaGreat
open Go Go.RowKit
def isSetB (v : Value) : Prop := ∃ s : SetD, v = setV s ∧ (-9223372036854775808 ≤ s.lit ∧ s.lit ≤ 9223372036854775807)
theorem isSetB_mk (a b c : Int) (h : -9223372036854775808 ≤ b ∧ b ≤ 9223372036854775807) : isSetB (.agg #[.int .i64 a, .int .i64 b, .int .i64 c]) := ⟨⟨a, b, c⟩, rfl, h⟩
set_option maxRecDepth 100000 in
set_option maxHeartbeats 4000000 in
theorem l1BadB_any (rb : Nat) (B : Value) (s : SetD) (w : World) (N : Nat) (h : Rdr rb B w N) (hN : N ≤ 1000000000) (hs : setOk s = true) :
    Calls Tryz.prog 71  #[.pointer (some ⟨rb, 0, none⟩), setV s] w (Drawn rb B 2 isSetB w) := by
  have hlt := h.lt
  have HR := Lib.hid h
  have hne0 : ¬ w.heap.size = rb := by omega
  have hne1 : ¬ w.heap.size + 1 = rb := by omega
  have hU := RdUp.refl rb B 0 w
  have e1 : w.heap.size < w.heap.size + 1 := by omega
  have e2 : w.heap.size < w.heap.size + 1 + 1 := by omega
  have e3 : w.heap.size + 1 < w.heap.size + 1 + 1 := by omega
  have hlb := (setOk_bd hs).2.1
  obtain ⟨hlb1, hlb2⟩ := hlb
  clear hs
  simp only [setV]
  go_enter Tryz.func71, Tryz.ntmps71
  go_wp2_with (first | (go_at_call 68; ((with_reducible refine (num_at ([-1, 2]) HR.out hU (by intro c hU; (repeat (first | with_reducible assumption | refine RdUp.ups ?_ (by with_reducible assumption) | with_reducible refine RdUp.set ?_ (by first | exact Nat.le_refl _ | (simp only []; omega) | (simp; omega)) _ | with_reducible refine RdUp.alloc ?_ _ | with_reducible refine RdUp.drew ?_ | with_reducible exact RdUp.of (Up.refl _)))) (by omega) (by first | rfl | (simp; done) | fail) (by first | rfl | (simp; done) | fail) (by first | rfl | (simp; done) | fail) (by simp) (by simp) (by first | rfl | (simp; done) | fail)).mono ?_); rintro e w' ⟨i, rfl, hi, hU, U⟩; have D := gcell U.1; have Z := U.1.size; (try simp at Z); (try have Y0 : w.heap.size < w'.heap.size := (by omega)); (try have Y1 : w.heap.size + 1 < w'.heap.size := (by omega)); (try have Y2 : w.heap.size + 1 + 1 < w'.heap.size := (by omega)); (try have X0 : w.heap.size < w'.heap.size + 1 := (by omega)); (try have X1 : w.heap.size + 1 < w'.heap.size + 1 := (by omega)); (try have X2 : w.heap.size + 1 + 1 < w'.heap.size + 1 := (by omega)); (clear hi))) | (go_at_call 68; ((with_reducible refine (num_at ([0, 9, -1, 9223372036854775807]) HR.out hU (by intro c hU; (repeat (first | with_reducible assumption | refine RdUp.ups ?_ (by with_reducible assumption) | with_reducible refine RdUp.set ?_ (by first | exact Nat.le_refl _ | (simp only []; omega) | (simp; omega)) _ | with_reducible refine RdUp.alloc ?_ _ | with_reducible refine RdUp.drew ?_ | with_reducible exact RdUp.of (Up.refl _)))) (by omega) (by first | rfl | (simp; done) | fail) (by first | rfl | (simp; done) | fail) (by first | rfl | (simp; done) | fail) (by simp) (by simp) (by first | rfl | (simp; done) | fail)).mono ?_); rintro e w' ⟨i, rfl, hi, hU, U⟩; have D := gcell U.1; have Z := U.1.size; (try simp at Z); (try have Y0 : w.heap.size < w'.heap.size := (by omega)); (try have Y1 : w.heap.size + 1 < w'.heap.size := (by omega)); (try have Y2 : w.heap.size + 1 + 1 < w'.heap.size := (by omega)); (try have X0 : w.heap.size < w'.heap.size + 1 := (by omega)); (try have X1 : w.heap.size + 1 < w'.heap.size + 1 := (by omega)); (try have X2 : w.heap.size + 1 + 1 < w'.heap.size + 1 := (by omega)); ((have hlx : -9223372036854775808 ≤ i ∧ i ≤ 9223372036854775807 := (by simp at hi; omega)); clear hi))) | (go_at_call 68; ((with_reducible refine (num_at ([s.lit + 1, 11, -1, -9223372036854775808]) HR.out hU (by intro c hU; (repeat (first | with_reducible assumption | refine RdUp.ups ?_ (by with_reducible assumption) | with_reducible refine RdUp.set ?_ (by first | exact Nat.le_refl _ | (simp only []; omega) | (simp; omega)) _ | with_reducible refine RdUp.alloc ?_ _ | with_reducible refine RdUp.drew ?_ | with_reducible exact RdUp.of (Up.refl _)))) (by omega) (by first | rfl | (simp; done) | fail) (by first | rfl | (simp; done) | fail) (by first | rfl | (simp; done) | fail) (by simp) (by simp) (by first | rfl | (simp; done) | fail)).mono ?_); rintro e w' ⟨i, rfl, hi, hU, U⟩; have D := gcell U.1; have Z := U.1.size; (try simp at Z); (try have Y0 : w.heap.size < w'.heap.size := (by omega)); (try have Y1 : w.heap.size + 1 < w'.heap.size := (by omega)); (try have Y2 : w.heap.size + 1 + 1 < w'.heap.size := (by omega)); (try have X0 : w.heap.size < w'.heap.size + 1 := (by omega)); (try have X1 : w.heap.size + 1 < w'.heap.size + 1 := (by omega)); (try have X2 : w.heap.size + 1 + 1 < w'.heap.size + 1 := (by omega)); (clear hi))) | (go_at_call 28; ((with_reducible refine (pick_at HR.out hU (by intro c hU; (repeat (first | with_reducible assumption | refine RdUp.ups ?_ (by with_reducible assumption) | with_reducible refine RdUp.set ?_ (by first | exact Nat.le_refl _ | (simp only []; omega) | (simp; omega)) _ | with_reducible refine RdUp.alloc ?_ _ | with_reducible refine RdUp.drew ?_ | with_reducible exact RdUp.of (Up.refl _)))) (by omega)).mono ?_); rintro e w' ⟨i, rfl, hi0, hi1, hU, U⟩; have D := gcell U.1; have Z := U.1.size; (try simp at Z); (try have Y0 : w.heap.size < w'.heap.size := (by omega)); (try have Y1 : w.heap.size + 1 < w'.heap.size := (by omega)); (try have Y2 : w.heap.size + 1 + 1 < w'.heap.size := (by omega)); (try have X0 : w.heap.size < w'.heap.size + 1 := (by omega)); (try have X1 : w.heap.size + 1 < w'.heap.size + 1 := (by omega)); (try have X2 : w.heap.size + 1 + 1 < w'.heap.size + 1 := (by omega)))))
  all_goals
    have q0 : w'.cell? ⟨w.heap.size + 1, 0, none⟩ = some (.int .i64 0) := by simp [go_sem, *]
    have q1 : w'.cell? ⟨w.heap.size + 1, 1, none⟩ = some (.int .i64 0) := by simp [go_sem, *]
    have q2 : w'.cell? ⟨w.heap.size + 1, 2, none⟩ = some (.int .i64 0) := by simp [go_sem, *]
    refine bodyPost_ret (v := _) (by simp [results, Tryz.results71, go_sem, q0, q1, q2]; rfl) rfl ?_
    refine ⟨_, rfl, isSetB_mk _ _ _ (by first | omega | assumption), ?_⟩
    exact RdUp.fin hU (by intro c hU; (repeat (first | with_reducible assumption | refine RdUp.ups ?_ (by with_reducible assumption) | with_reducible refine RdUp.set ?_ (by first | exact Nat.le_refl _ | (simp only []; omega) | (simp; omega)) _ | with_reducible refine RdUp.alloc ?_ _ | with_reducible refine RdUp.drew ?_ | with_reducible exact RdUp.of (Up.refl _)))) (by omega)
theorem upOut_ex {f : FuncId} {args : Array Value} {w : World} {D : Value → Prop} (h : Calls Tryz.prog f args w (fun e w' => ∃ v, e = .returned v ∧ Up w w' ∧ D v)) : upOut Tryz.prog (fun v _ => D v) w (.ok (.enter f args) w) := ⟨rfl, h⟩
theorem RdInts.gr {rb : Nat} {w w' : World} {v : Value} {l : List Int} (h : RdInts rb w v l) (hg : w.grownBy w' (some rb)) : RdInts rb w' v l := by
  obtain ⟨b, off, cap, h1, h2, h3, h4, h5, h6⟩ := h
  exact ⟨b, off, cap, h1, h2, h3, Nat.lt_of_lt_of_le h4 hg.size, h5, fun i x hi => ((gcell hg).1 b _ h4 (fun e => h5 (Option.some.inj e))).trans (h6 i x hi)⟩
theorem rdInts_new {rb : Nat} {w : World} {T : TypeId} (l : List Int) {cs : Array Value} (hcs : cs = (l.map (Value.int .i64)).toArray) (hl : l.length ≤ 100) {n cap : Nat} (hn : n = l.length) (hc : cap = n) (hlt : rb < w.heap.size) : RdInts rb (w.alloc (.cells cs T)) (.slice (some ⟨w.heap.size, 0, none⟩) n cap) l := by
  subst hcs hc hn
  refine ⟨w.heap.size, 0, l.length, rfl, Nat.le_refl _, by unfold maxLen; omega, by simp, by omega, fun i x hi => ?_⟩
  rw [box_cell (MapKept.heap_alloc w _).1, Nat.zero_add]
  simp [hi]
theorem many_str (s : ByteArray) (i : Int) (M : Nat) (h0 : 0 ≤ i) (h1 : i ≤ M) (hM : M ≤ 2001) (hs : s.size ≤ 1) (w : World) : Calls Tryz.prog 70  #[.string s, .int .i64 i] w (fun e w' => ∃ v, e = .returned v ∧ Up w w' ∧ IsStr M v) := by
  obtain ⟨n, rfl⟩ := Int.eq_ofNat_of_zero_le h0
  have hn : n ≤ M := by omega
  have hb : n * s.size ≤ n := by
    have := Nat.mul_le_mul_left n hs
    omega
  refine (l9Many_any s n w (by omega) (by omega) (by omega)).mono fun e w' ⟨he, hw⟩ => ⟨_, he, hw ▸ Up.refl _, _, rfl, ?_⟩
  rw [bs_size, rep_length, ba_len]; omega
set_option maxRecDepth 100000 in
set_option maxHeartbeats 8000000 in
theorem l1Wild_any (rb : Nat) (B : Value) (d : ByteArray) (w : World) (N : Nat) (h : Rdr rb B w N) (hN : N ≤ 900000000) (hd : d.size ≤ 1000) :
    Calls Tryz.prog 29  #[.pointer (some ⟨rb, 0, none⟩), .string d] w (Drawn rb B 10 (IsStr 2001) w) := by
  obtain ⟨p, hp, h, HM⟩ := h.least
  have hlt := h.lt
  have HR := Lib.hid h
  have hU := RdUp.refl rb B 0 w
  have hcv := conv_new1
  have hz255 : (strOfNums [255]).size = 1 := strOfNums_size _
  go_enter Tryz.func29, Tryz.ntmps29
  go_wp2_with (first | (go_at_call 28; ((with_reducible refine (pick_at (n := 40) HR.out hU (by intro c hU; (repeat (first | with_reducible assumption | refine RdUp.ups ?_ (by with_reducible assumption) | with_reducible refine RdUp.set ?_ (by first | exact Nat.le_refl _ | (simp only []; omega) | (simp; omega)) _ | with_reducible refine RdUp.alloc ?_ _ | with_reducible refine RdUp.drew ?_ | with_reducible exact RdUp.of (Up.refl _)))) (by omega)).mono ?_); rintro e w' ⟨x, rfl, x0, x1, hU, U⟩; have D := gcell U.1; have Z := U.1.size; (try simp at Z); (try have Y0 : w.heap.size < w'.heap.size := (by omega)); (try have Y1 : w.heap.size + 1 < w'.heap.size := (by omega)); (try have Y2 : w.heap.size + 1 + 1 < w'.heap.size := (by omega)); (try have X0 : w.heap.size < w'.heap.size + 1 := (by omega)); (try have X1 : w.heap.size + 1 < w'.heap.size + 1 := (by omega)); (try have X2 : w.heap.size + 1 + 1 < w'.heap.size + 1 := (by omega)); (skip))))
  all_goals first
    | (go_ret
       exact ⟨_, rfl, ⟨_, rfl, (by first | omega | (rw [ByteArray.size_append, strOfNums_size]; show _ + 1 ≤ _; omega))⟩, by exact RdUp.fin hU (by intro c hU; (repeat (first | with_reducible assumption | refine RdUp.ups ?_ (by with_reducible assumption) | with_reducible refine RdUp.set ?_ (by first | exact Nat.le_refl _ | (simp only []; omega) | (simp; omega)) _ | with_reducible refine RdUp.alloc ?_ _ | with_reducible refine RdUp.drew ?_ | with_reducible exact RdUp.of (Up.refl _)))) (by omega)⟩)
    | skip
  have hr2 := hU.2 _ h
  refine wp_region_rd 6 rb B 1 (p + (0 + 1)) (by kernel_rfl) (by kernel_rfl) hr2 ?_
  simp only [List.take, List.drop]
  repeat (refine wpR_step (fun K hK => ?_); go_simp; (try simp only [↓IntWalk.iteOmega]); first
    | (refine hK _ _ ?_; clear hK K)
    | (refine stepR_c ?_ ?_ ?_
       rotate_left
       · intro wq hwq hrq; (have hbq := gcell hwq; (repeat (first | refine fills_no (by rfl) ?_ | (refine fills_yes (by rfl) (fun vq hvq => ?_); (try ((first | ((with_reducible have hl : LitR rb vq wq := hvq); obtain ⟨x, hlv⟩ := litR_open hl) | ((with_reducible have hvi : RdInts rb wq vq [2000, 2001] := hvq)) | ((with_reducible have hvs : IsStr 1 vq := hvq); obtain ⟨sb, rfl, hsb⟩ := hvs) | ((with_reducible have hvo : oneOf [2000, 2001] vq := hvq); obtain ⟨i, rfl, hi9⟩ := hvo))))))); simp only [List.filter_nil, fills]; unfold upAt; (try (skip)); go_simp; (try go_bits); (try simp only [↓IntWalk.iteOmega]); (try (rw [dif_pos (by omega)]; go_simp; try go_bits)); first | exact upOut_value)
       go_simp; refine hK _ _ ?_; clear hK K)
    | (refine stepR_m (by kernel_rfl) ?_ ?_ (fun wq hwq hrq => ?_) ?_
       rotate_left 2
       · (have hbq := gcell hwq; (repeat (first | refine fills_no (by rfl) ?_ | (refine fills_yes (by rfl) (fun vq hvq => ?_); (try ((first | ((with_reducible have hl : LitR rb vq wq := hvq); obtain ⟨x, hlv⟩ := litR_open hl) | ((with_reducible have hvi : RdInts rb wq vq [2000, 2001] := hvq)) | ((with_reducible have hvs : IsStr 1 vq := hvq); obtain ⟨sb, rfl, hsb⟩ := hvs) | ((with_reducible have hvo : oneOf [2000, 2001] vq := hvq); obtain ⟨i, rfl, hi9⟩ := hvo))))))); simp only [List.filter_nil, fills]; unfold upAt; (try (skip)); go_simp; (try go_bits); (try simp only [↓IntWalk.iteOmega]); (try (rw [dif_pos (by omega)]; go_simp; try go_bits)); first | ((with_reducible refine upOut_D (LitR rb) ?_); (((with_reducible refine upOut_make ((Up.refl _).alloc _) ?_); exact litR_new hrq.lt (by omega) (by omega)))) | ((with_reducible refine upOut_D (fun v _ => IsStr 1 v) ?_); ((rw [litR_conv hlv]; (try go_simp); (with_reducible refine upOut_make (Up.refl _) ?_); exact ⟨_, rfl, by rw [strOfNums_size]; exact Nat.le_refl _⟩))) | ((with_reducible refine upOut_D ((fun v w => RdInts rb w v [2000, 2001])) ?_); (((with_reducible refine upOut_make ((Up.refl _).alloc _) ?_); exact rdInts_new [2000, 2001] rfl (by decide) rfl rfl hrq.lt))) | ((with_reducible refine upOut_D (fun v _ => IsStr 2001 v) ?_); ((with_reducible refine upOut_ex (many_str _ _ 2001 (by simp at hi9; omega) (by simp at hi9; omega) (by omega) hsb _)))))
       rotate_left
       · (first | exact (fun _ _ _ h _ => h) | exact (litR_closed) | exact ((fun v w w' h hg => RdInts.gr h hg)))
       refine hK _ _ ?_; clear hK K)
    | (refine stepR_d (by rfl) (by kernel_rfl) (fun v _ => oneOf [2000, 2001] v) (fun _ _ _ h _ => h) (fun wq hwq hrq => ?_) ?_
       · (have hbq := gcell hwq; (repeat (first | refine fills_no (by rfl) ?_ | (refine fills_yes (by rfl) (fun vq hvq => ?_); (try ((first | ((with_reducible have hl : LitR rb vq wq := hvq); obtain ⟨x, hlv⟩ := litR_open hl) | ((with_reducible have hvi : RdInts rb wq vq [2000, 2001] := hvq)) | ((with_reducible have hvs : IsStr 1 vq := hvq); obtain ⟨sb, rfl, hsb⟩ := hvs) | ((with_reducible have hvo : oneOf [2000, 2001] vq := hvq); obtain ⟨i, rfl, hi9⟩ := hvo))))))); simp only [List.filter_nil, fills]; unfold gAt; (try (skip)); go_simp; (try go_bits); (try simp only [↓IntWalk.iteOmega]); (try (rw [dif_pos (by omega)]; go_simp; try go_bits)); (with_reducible refine gOut_drawn ((num_any rb B [2000, 2001] _ wq _ hrq (by omega) hvi (by decide))) ?_); decide)
       refine hK _ _ ?_; clear hK K))
  refine wpR_nil (fun wq hwq hrq => ?_)
  simp only [fills]
  rintro v9 ⟨sb, rfl, hsb⟩
  intros
  have hU := RdUp.made (C := 10) HM (grownBy_trans hU.1 hwq) hrq (by omega)
  go_wp2
  rw [onlyN_normal]
  go_wp2
  go_ret
  exact ⟨_, rfl, ⟨_, rfl, hsb⟩, by exact RdUp.fin hU (by intro c hU; (repeat (first | with_reducible assumption | refine RdUp.ups ?_ (by with_reducible assumption) | with_reducible refine RdUp.set ?_ (by first | exact Nat.le_refl _ | (simp only []; omega) | (simp; omega)) _ | with_reducible refine RdUp.alloc ?_ _ | with_reducible refine RdUp.drew ?_ | with_reducible exact RdUp.of (Up.refl _)))) (by omega)⟩
end Go.Proofs.YtgbakgaegldomaaGreat

/- Texts joined into one: Eqb, Law. Conditions: as each says. -/
/- Walks of the laws' helpers that take a setting over and compare blocks. Conditions: none. -/
namespace Go.Proofs.YtgbakgaegldomaaGreat
open Go Go.RowKit
end Go.Proofs.YtgbakgaegldomaaGreat
/- The end of every law's row: the call answers true and nothing that was there has turned. Conditions: those of post_law. -/
namespace Go.Proofs.YtgbakgaegldomaaGreat
open Go.ChangeShapes Go.WideShapes Go.ChangeAt Go.RowKit
theorem TryzlaidOut : laidOutB Tryz.prog = true := by kernel_rfl
theorem own : ownKnob Tryz.prog.godebug = none := by kernel_rfl
theorem trodAll_up {H : Type} {enc : TypeId × Value → H} {P : Program} (hl : laidOutB P = true) {W W' : World} (hb : Below W.heap.size W W') : ∀ (ts : List TypeId) (vs : List Value) (ds : List (DataW H)) (ps : List MemPlace),
    (∀ t ∈ ts, P.readableRec t = true ∧ t < P.types.size) → (∀ x ∈ ps, x.block < W.heap.size) → DataW.TrodAll enc P W 0 (fun _ => true) true ts vs ds ps → DataW.TrodAll enc P W' 0 (fun b => decide (b < W.heap.size)) true ts vs ds ps
  | [], [], [], _, _, _, h => h
  | t :: ts, v :: vs, d :: ds, ps, ht, hp, h => by
    obtain ⟨p, q, h1, h2, rfl⟩ := h
    refine ⟨p, q, Below.trod hl (ht t (List.mem_cons_self ..)).1 (ht t (List.mem_cons_self ..)).2 h1 hb fun x hx => hp x (List.mem_append_left _ hx), ?_, rfl⟩
    exact trodAll_up hl hb ts vs ds q (fun t h => ht t (List.mem_cons_of_mem _ h)) (fun x hx => hp x (List.mem_append_right _ hx)) h2
  | [], _ :: _, _, _, _, _, h => h.elim
  | _ :: _, [], _, _, _, _, h => h.elim
  | [], [], _ :: _, _, _, _, h => h.elim
  | _ :: _, _ :: _, [], _, _, _, h => h.elim
theorem post_law {H : Type} {enc : TypeId × Value → H} {P : Program} {f : Func} {s : ChangeSpec} {W W' : World} {args : Array Value} {ds gs : List (DataW H)} {before : List MemPlace} {tb : TypeId}
    (hl : laidOutB P = true) (hp : (f.params.all fun t => P.readableRec t && decide (t < P.types.size)) = true) (hrt : f.resultTypes = #[tb]) (htb : P.underlying tb = some .bool) (hvars : s.vars = [])
    (hW : DataW.Whole enc P f.params.toList s.vars false W args.toList ds gs before) (hs : ∀ ds' : List (DataW H), ds' = ds → (s.fn H ds').results = [.lit (.bool true)] ∧ (s.fn H ds').args = ds ∧ (s.fn H ds').vars = []) (hb : Up W W') :
    s.post enc P f false true false false W args (.bool true) W' := by
  have hlt := fun p hp => hW.lt (p := p) hp
  obtain ⟨p, q, hA, hV, rfl, hz, hn⟩ := id hW
  rw [hvars] at hV
  obtain ⟨rfl, rfl⟩ := trodVars_none hV
  obtain ⟨e1, e2, e3⟩ := hs (ds ++ []) (by simp)
  refine ⟨ds, [], p ++ [], [], p, [], hW, ?_, ?_, ?_, ?_, fun h => by cases h⟩
  · rw [e1, hrt]
    exact trodAll_mk1 (shut_bool htb true)
  · rw [e2]
    refine trodAll_up hl hb _ _ _ _ (fun t ht => ?_) (fun x hx => hlt x (by simpa using hx)) hA
    have := Array.all_eq_true_iff_forall_mem.1 hp t (by simpa using ht)
    simpa using this
  · rw [e3, hvars]
    rfl
  · exact hb.frame _
end Go.Proofs.YtgbakgaegldomaaGreat

