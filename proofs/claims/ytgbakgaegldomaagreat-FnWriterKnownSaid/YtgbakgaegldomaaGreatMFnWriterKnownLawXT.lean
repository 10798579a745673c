/- Texts joined into one: the walks and laws that the last text leans on. Conditions: as each says. -/
import Derived.Test.YtgbakgaegldomaaGreatMFnWriterKnownLawXR
import Derived.Test.YtgbakgaegldomaaGreatMFnWriterKnownLawQ
import Derived.Test.YtgbakgaegldomaaGreatMFnWriterKnownLawN
import Derived.Test.YtgbakgaegldomaaGreatMFnWriterKnownLawY

set_option linter.unusedVariables false
set_option linter.unusedSimpArgs false
/- Walks of the reference's l1Unpack and UnpackCodes. Conditions: what is known is valid and can be read; the string's length is bounded. -/
namespace Go.Proofs.YtgbakgaegldomaaGreat
open Go Go.RowKit
structure UnR where
  codes : List Int
  fin : Int
  used : Nat
structure UnB (lo : Nat) (w : World) (k : KnD) (v : Value) (cs : List Int) (vc : Value) (wr : World) : Prop where
  kn : KnAt w.heap.size k v wr
  pr : RdP lo w v k.ps ∨ ownPr wr (w.heap.size + 1) v k.ps
  own : ownI wr (w.heap.size + 1) vc cs
  up : Up w wr
theorem UnB.upd {lo : Nat} {w : World} {k : KnD} {v : Value} {cs : List Int} {vc : Value} {wr w' : World} (h : UnB lo w k v cs vc wr) (hu : Up wr w') : UnB lo w k v cs vc w' :=
  ⟨h.kn.up hu, h.pr.imp id fun h => ownsRow_up h hu, ownsRow_up h.own hu, h.up.trans hu⟩
theorem UnB.rd {lo : Nat} {w : World} {k : KnD} {v : Value} {cs : List Int} {vc : Value} {wr : World} (h : UnB lo w k v cs vc wr) : RdP 0 wr v k.ps := by
  rcases h.pr with h1 | h1
  · exact (h1.up h.up).low (Nat.zero_le _)
  · exact (RdP.of_own h1).low (Nat.zero_le _)
structure UnD (T : RdR) (o : Int) (bits : List UInt8) (k0 : KnD) (m : Nat) (k : KnD) (p : Nat) (cs : List Int) (d : List UInt8) : Prop where
  inv : RdInv bits 0 k0 k p cs d
  tot : readN o bits 0 0 m k p cs d = T
  len : bits.length ≤ p + m
  cl : cs.length < 3100
end Go.Proofs.YtgbakgaegldomaaGreat

/- Walks of the reference's Decompress, DecompressWith, l5Data, BlockData. Conditions: what is known is valid and can be read; strings are no longer than 2^30 bytes. -/
namespace Go.Proofs.YtgbakgaegldomaaGreat
open Go Go.RowKit
theorem RdI.low {lo lo' : Nat} {w : World} {v : Value} {l : List Int} (h : RdI lo w v l) (hl : lo' ≤ lo) : RdI lo' w v l := by
  obtain ⟨a, cap, h1, h2, h3, h4⟩ := h
  exact ⟨a, cap, h1, h2, h3, fun hp => by
    obtain ⟨b, off, e1, e2, e3⟩ := h4 hp
    exact ⟨b, off, e1, Nat.le_trans hl e2, e3⟩⟩
end Go.Proofs.YtgbakgaegldomaaGreat

/- Plain: reading bits that go on (for the readers' laws: reading in parts). Conditions: what is known is valid. -/
namespace Go.Proofs.YtgbakgaegldomaaGreat
open Go Go.RowKit
theorem codeAt_more {o : Int} {bits more : List UInt8} {p wd : Nat} (h : p + wd ≤ bits.length) : codeAt o (bits ++ more) p wd = codeAt o bits p wd := by
  unfold codeAt
  rw [List.drop_append_of_le_length (by omega), List.take_append_of_le_length (by rw [List.length_drop]; omega)]
theorem readN_more (o : Int) (bits more : List UInt8) (sz ct : Nat) : ∀ (n : Nat) (k : KnD) (p : Nat) (cs : List Int) (d : List UInt8) (m : Nat), k.Ok → bits.length ≤ p + n → (bits ++ more).length ≤ p + m →
    ((readN o bits sz ct n k p cs d).fin ≠ 1 → readN o (bits ++ more) sz ct m k p cs d = readN o bits sz ct n k p cs d) ∧
    ((readN o bits sz ct n k p cs d).fin = 1 → ∃ m', (bits ++ more).length ≤ (readN o bits sz ct n k p cs d).pos + m' ∧
      readN o (bits ++ more) sz ct m k p cs d = readN o (bits ++ more) sz ct m' (readN o bits sz ct n k p cs d).k (readN o bits sz ct n k p cs d).pos (readN o bits sz ct n k p cs d).codes (readN o bits sz ct n k p cs d).data) := by
  intro n
  induction n with
  | zero =>
    intro k p cs d m hk hn hm
    exact ⟨fun h => absurd rfl h, fun _ => ⟨m, hm, rfl⟩⟩
  | succ n ih =>
    intro k p cs d m hk hn hm
    have hw := KnD.width_bd hk
    by_cases hs : bits.length < p + k.width
    · have e : readN o bits sz ct (n + 1) k p cs d = ⟨k, cs, d, 1, p⟩ := readN_short hs
      rw [e]
      exact ⟨fun h => absurd rfl h, fun _ => ⟨m, hm, rfl⟩⟩
    have hlm : ¬ (bits ++ more).length < p + k.width := by rw [List.length_append]; omega
    obtain ⟨m, rfl⟩ : ∃ q, m = q + 1 := ⟨m - 1, by rw [List.length_append] at hm; omega⟩
    have hx := codeAt_more (o := o) (bits := bits) (more := more) (p := p) (wd := k.width) (by omega)
    have hn' : bits.length ≤ p + k.width + n := by omega
    have hm' : (bits ++ more).length ≤ p + k.width + m := by omega
    generalize hxx : codeAt o bits p k.width = x at hx
    by_cases h1 : x = (k.c : Int) + 1
    · rw [readN, readN, if_neg hs, if_neg hlm, hx, hxx, if_pos h1, if_pos h1]
      exact ⟨fun _ => rfl, fun h => by simp at h⟩
    by_cases h2 : x = (k.c : Int)
    · rw [readN, readN, if_neg hs, if_neg hlm, hx, hxx, if_neg h1, if_neg h1, if_pos h2, if_pos h2]
      by_cases h3 : 3100 ≤ ct + (cs.length + 1)
      · rw [if_pos h3, if_pos h3]
        exact ⟨fun _ => rfl, fun h => by simp at h⟩
      · rw [if_neg h3, if_neg h3]
        exact ih k.cleared _ _ _ m (KnD.cleared_ok hk) hn' hm'
    by_cases h4 : k.follows x = false
    · rw [readN, readN, if_neg hs, if_neg hlm, hx, hxx, if_neg h1, if_neg h1, if_neg h2, if_neg h2, if_pos h4, if_pos h4]
      exact ⟨fun _ => rfl, fun h => by simp at h⟩
    have hf : k.follows x = true := by simpa using h4
    by_cases h5 : 2000 < sz + d.length + (k.any x).length
    · rw [readN, readN, if_neg hs, if_neg hlm, hx, hxx, if_neg h1, if_neg h1, if_neg h2, if_neg h2, if_neg h4, if_neg h4, if_pos h5, if_pos h5]
      exact ⟨fun _ => rfl, fun h => by simp at h⟩
    by_cases h6 : 3100 ≤ ct + (cs.length + 1)
    · rw [readN, readN, if_neg hs, if_neg hlm, hx, hxx, if_neg h1, if_neg h1, if_neg h2, if_neg h2, if_neg h4, if_neg h4, if_neg h5, if_neg h5, if_pos h6, if_pos h6]
      exact ⟨fun _ => rfl, fun h => by simp at h⟩
    · rw [readN, readN, if_neg hs, if_neg hlm, hx, hxx, if_neg h1, if_neg h1, if_neg h2, if_neg h2, if_neg h4, if_neg h4, if_neg h5, if_neg h5, if_neg h6, if_neg h6]
      exact ih (k.after x) _ _ _ m (KnD.after_ok hk hf) hn' hm'
theorem readN_shift (o : Int) (bits : List UInt8) (q sz ct : Nat) (hq : q ≤ bits.length) : ∀ (n : Nat) (k : KnD) (p : Nat) (cs : List Int) (d : List UInt8),
    readN o bits sz ct n k (q + p) cs d = ⟨(readN o (bits.drop q) sz ct n k p cs d).k, (readN o (bits.drop q) sz ct n k p cs d).codes, (readN o (bits.drop q) sz ct n k p cs d).data, (readN o (bits.drop q) sz ct n k p cs d).fin, q + (readN o (bits.drop q) sz ct n k p cs d).pos⟩ := by
  intro n
  induction n with
  | zero => intro k p cs d; rfl
  | succ n ih =>
    intro k p cs d
    have hx : codeAt o bits (q + p) k.width = codeAt o (bits.drop q) p k.width := by unfold codeAt; rw [List.drop_drop]
    have hl : (bits.drop q).length = bits.length - q := List.length_drop
    rw [readN, readN, hx]
    generalize codeAt o (bits.drop q) p k.width = x
    by_cases hs : (bits.drop q).length < p + k.width
    · rw [if_pos (by omega), if_pos hs]
    rw [if_neg (by omega), if_neg hs]
    by_cases h1 : x = (k.c : Int) + 1
    · rw [if_pos h1, if_pos h1]
      simp [Nat.add_assoc]
    rw [if_neg h1, if_neg h1]
    by_cases h2 : x = (k.c : Int)
    · rw [if_pos h2, if_pos h2]
      by_cases h3 : 3100 ≤ ct + (cs.length + 1)
      · rw [if_pos h3, if_pos h3]
        simp [Nat.add_assoc]
      · rw [if_neg h3, if_neg h3, Nat.add_assoc]
        exact ih _ _ _ _
    rw [if_neg h2, if_neg h2]
    by_cases h4 : k.follows x = false
    · rw [if_pos h4, if_pos h4]
      simp [Nat.add_assoc]
    rw [if_neg h4, if_neg h4]
    by_cases h5 : 2000 < sz + d.length + (k.any x).length
    · rw [if_pos h5, if_pos h5]
      simp [Nat.add_assoc]
    rw [if_neg h5, if_neg h5]
    by_cases h6 : 3100 ≤ ct + (cs.length + 1)
    · rw [if_pos h6, if_pos h6]
      simp [Nat.add_assoc]
    · rw [if_neg h6, if_neg h6, Nat.add_assoc]
      exact ih _ _ _ _
theorem readN_acc (o : Int) (bits : List UInt8) (sz ct : Nat) (cs0 : List Int) (d0 : List UInt8) : ∀ (n : Nat) (k : KnD) (p : Nat) (cs : List Int) (d : List UInt8),
    readN o bits sz ct n k p (cs0 ++ cs) (d0 ++ d) = ⟨(readN o bits (sz + d0.length) (ct + cs0.length) n k p cs d).k, cs0 ++ (readN o bits (sz + d0.length) (ct + cs0.length) n k p cs d).codes, d0 ++ (readN o bits (sz + d0.length) (ct + cs0.length) n k p cs d).data, (readN o bits (sz + d0.length) (ct + cs0.length) n k p cs d).fin, (readN o bits (sz + d0.length) (ct + cs0.length) n k p cs d).pos⟩ := by
  intro n
  induction n with
  | zero => intro k p cs d; rfl
  | succ n ih =>
    intro k p cs d
    rw [readN, readN]
    generalize codeAt o bits p k.width = x
    by_cases hs : bits.length < p + k.width
    · rw [if_pos hs, if_pos hs]
    rw [if_neg hs, if_neg hs]
    by_cases h1 : x = (k.c : Int) + 1
    · rw [if_pos h1, if_pos h1]
      simp
    rw [if_neg h1, if_neg h1]
    by_cases h2 : x = (k.c : Int)
    · rw [if_pos h2, if_pos h2]
      by_cases h3 : 3100 ≤ ct + ((cs0 ++ cs).length + 1)
      · rw [if_pos h3, if_pos (show 3100 ≤ ct + cs0.length + (cs.length + 1) by rw [List.length_append] at h3; omega)]
        simp
      · rw [if_neg h3, if_neg (show ¬ 3100 ≤ ct + cs0.length + (cs.length + 1) by rw [List.length_append] at h3; omega), List.append_assoc]
        exact ih _ _ _ _
    rw [if_neg h2, if_neg h2]
    by_cases h4 : k.follows x = false
    · rw [if_pos h4, if_pos h4]
    rw [if_neg h4, if_neg h4]
    by_cases h5 : 2000 < sz + (d0 ++ d).length + (k.any x).length
    · rw [if_pos h5, if_pos (show 2000 < sz + d0.length + d.length + (k.any x).length by rw [List.length_append] at h5; omega)]
    rw [if_neg h5, if_neg (show ¬ 2000 < sz + d0.length + d.length + (k.any x).length by rw [List.length_append] at h5; omega)]
    by_cases h6 : 3100 ≤ ct + ((cs0 ++ cs).length + 1)
    · rw [if_pos h6, if_pos (show 3100 ≤ ct + cs0.length + (cs.length + 1) by rw [List.length_append] at h6; omega)]
      simp
    · rw [if_neg h6, if_neg (show ¬ 3100 ≤ ct + cs0.length + (cs.length + 1) by rw [List.length_append] at h6; omega), List.append_assoc, List.append_assoc]
      exact ih _ _ _ _
end Go.Proofs.YtgbakgaegldomaaGreat

/- Plain: a reader that gets a stream in parts reads what it reads at once (for FnWriterKnown, FnWholeTravel, FnTravel). Conditions: what is known is valid. -/
namespace Go.Proofs.YtgbakgaegldomaaGreat
open Go Go.RowKit
theorem readN_one (o : Int) (bits : List UInt8) (sz ct : Nat) : ∀ (n : Nat) (k : KnD) (p : Nat) (cs : List Int) (d : List UInt8), k.Ok → k.vl → bits.length ≤ p + n → p ≤ bits.length → ct + cs.length < 3100 →
    p ≤ (readN o bits sz ct n k p cs d).pos ∧ (readN o bits sz ct n k p cs d).pos ≤ bits.length ∧ (readN o bits sz ct n k p cs d).k.Ok ∧ (readN o bits sz ct n k p cs d).k.vl ∧ (readN o bits sz ct n k p cs d).k.set = k.set ∧
    ((readN o bits sz ct n k p cs d).fin = 1 → bits.length < (readN o bits sz ct n k p cs d).pos + (readN o bits sz ct n k p cs d).k.width ∧ ct + (readN o bits sz ct n k p cs d).codes.length < 3100) ∧
    ((readN o bits sz ct n k p cs d).fin ≠ 1 → p < (readN o bits sz ct n k p cs d).pos ∧ p + k.width ≤ (readN o bits sz ct n k p cs d).pos) := by
  intro n
  induction n with
  | zero =>
    intro k p cs d hk hv hn hp hc
    have hw := KnD.width_bd hk
    exact ⟨Nat.le_refl _, hp, hk, hv, rfl, fun _ => ⟨by show bits.length < p + k.width; omega, hc⟩, fun h => absurd rfl h⟩
  | succ n ih =>
    intro k p cs d hk hv hn hp hc
    have hw := KnD.width_bd hk
    have hcs : ∀ y : Int, (cs ++ [y]).length = cs.length + 1 := fun y => by simp
    by_cases hs : bits.length < p + k.width
    · have e : readN o bits sz ct (n + 1) k p cs d = ⟨k, cs, d, 1, p⟩ := readN_short hs
      rw [e]
      exact ⟨Nat.le_refl _, hp, hk, hv, rfl, fun _ => ⟨hs, hc⟩, fun h => absurd rfl h⟩
    have hn' : bits.length ≤ p + k.width + n := by omega
    have hp' : p + k.width ≤ bits.length := by omega
    rw [readN, if_neg hs]
    generalize codeAt o bits p k.width = x
    by_cases h1 : x = (k.c : Int) + 1
    · rw [if_pos h1]
      exact ⟨by show p ≤ p + k.width; omega, hp', hk, hv, rfl, fun h => by simp at h, fun _ => ⟨by show p < p + k.width; omega, Nat.le_refl _⟩⟩
    by_cases h2 : x = (k.c : Int)
    · rw [if_neg h1, if_pos h2]
      by_cases h3 : 3100 ≤ ct + (cs.length + 1)
      · rw [if_pos h3]
        exact ⟨by show p ≤ p + k.width; omega, hp', KnD.cleared_ok hk, vl_cleared hk, rfl, fun h => by simp at h, fun _ => ⟨by show p < p + k.width; omega, Nat.le_refl _⟩⟩
      · rw [if_neg h3]
        obtain ⟨a1, a2, a3, a4, a5, a6, a7⟩ := ih k.cleared (p + k.width) (cs ++ [x]) d (KnD.cleared_ok hk) (vl_cleared hk) hn' hp' (by rw [hcs]; omega)
        exact ⟨by omega, a2, a3, a4, a5, a6, fun h => ⟨by have := (a7 h).1; omega, by omega⟩⟩
    by_cases h4 : k.follows x = false
    · rw [if_neg h1, if_neg h2, if_pos h4]
      exact ⟨by show p ≤ p + k.width; omega, hp', hk, hv, rfl, fun h => by simp at h, fun _ => ⟨by show p < p + k.width; omega, Nat.le_refl _⟩⟩
    have hf : k.follows x = true := by simpa using h4
    by_cases h5 : 2000 < sz + d.length + (k.any x).length
    · rw [if_neg h1, if_neg h2, if_neg h4, if_pos h5]
      exact ⟨by show p ≤ p + k.width; omega, hp', hk, hv, rfl, fun h => by simp at h, fun _ => ⟨by show p < p + k.width; omega, Nat.le_refl _⟩⟩
    by_cases h6 : 3100 ≤ ct + (cs.length + 1)
    · rw [if_neg h1, if_neg h2, if_neg h4, if_neg h5, if_pos h6]
      exact ⟨by show p ≤ p + k.width; omega, hp', KnD.after_ok hk hf, vl_after hk hf, rfl, fun h => by simp at h, fun _ => ⟨by show p < p + k.width; omega, Nat.le_refl _⟩⟩
    · rw [if_neg h1, if_neg h2, if_neg h4, if_neg h5, if_neg h6]
      obtain ⟨a1, a2, a3, a4, a5, a6, a7⟩ := ih (k.after x) (p + k.width) (cs ++ [x]) (d ++ k.any x) (KnD.after_ok hk hf) (vl_after hk hf) hn' hp' (by rw [hcs]; omega)
      exact ⟨by omega, a2, a3, a4, a5, a6, fun h => ⟨by have := (a7 h).1; omega, by omega⟩⟩
theorem readN_fuel {o : Int} {bits : List UInt8} {sz ct n m : Nat} {k : KnD} {p : Nat} {cs : List Int} {d : List UInt8} (hk : k.Ok) (hv : k.vl) (hn : bits.length ≤ p + n) (hm : bits.length ≤ p + m) (hp : p ≤ bits.length) (hc : ct + cs.length < 3100) : readN o bits sz ct m k p cs d = readN o bits sz ct n k p cs d := by
  have h := readN_more o bits [] sz ct n k p cs d m hk hn (by rw [List.append_nil]; exact hm)
  rw [List.append_nil] at h
  by_cases h1 : (readN o bits sz ct n k p cs d).fin = 1
  · obtain ⟨m', -, e⟩ := h.2 h1
    obtain ⟨-, -, -, -, -, h6, -⟩ := readN_one o bits sz ct n k p cs d hk hv hn hp hc
    rw [e, readN_short (h6 h1).1, ← h1]
  · exact h.1 h1
structure RvD where
  k : KnD
  bits : List UInt8
  size : Nat
  cnt : Nat
  fin : Int
def RvD.got (r : RvD) (s : List UInt8) : RdR := readN r.k.set.ord (r.bits ++ unpackL r.k.set.ord s) r.size r.cnt (r.bits ++ unpackL r.k.set.ord s).length r.k 0 [] []
def RvD.read (r : RvD) (s : List UInt8) : RvD × List UInt8 × Nat :=
  if r.fin ≠ 1 then (r, [], 0)
  else (⟨(r.got s).k, if (r.got s).fin = 1 then (r.bits ++ unpackL r.k.set.ord s).drop (r.got s).pos else [], r.size + (r.got s).data.length, r.cnt + (r.got s).codes.length, (r.got s).fin⟩, (r.got s).data, if (r.got s).fin = 1 then s.length else ((r.got s).pos - r.bits.length + 7) / 8)
def rvS (k : KnD) (s : List UInt8) : RvD := ⟨(readS k s).k, if (readS k s).fin = 1 then (unpackL k.set.ord s).drop (readS k s).pos else [], (readS k s).data.length, (readS k s).codes.length, (readS k s).fin⟩
structure RvOk (r : RvD) : Prop where
  ok : r.k.Ok
  vl : r.k.vl
  bit : isBits r.bits
  size : r.size ≤ 2000
  cnt : r.cnt ≤ 3100
  kind : r.fin = 0 ∨ r.fin = 1 ∨ r.fin = 2 ∨ r.fin = 3
  short : r.fin = 1 → r.bits.length < r.k.width ∧ r.cnt < 3100
  done : r.fin ≠ 1 → r.bits = []
theorem rvS_ok {k : KnD} (hk : k.Ok) (hv : k.vl) (s : List UInt8) : RvOk (rvS k s) := by
  have hul := unpackL_length k.set.ord s
  have hF := readS_fin hk s
  obtain ⟨-, h2, h3, h4, -, h6, -⟩ := readN_one k.set.ord (unpackL k.set.ord s) 0 0 (8 * s.length) k 0 [] [] hk hv (by omega) (Nat.zero_le _) (by simp)
  refine ⟨h3, h4, ?_, by have := hF.dl; show (readS k s).data.length ≤ 2000; omega, by have := hF.cl; show (readS k s).codes.length ≤ 3100; omega, hF.kind, fun h1 => ?_, fun h1 => ?_⟩
  · unfold rvS
    show isBits (if _ then _ else _)
    split
    · exact (isBits_unpack _ _).drop _
    · exact fun b hb => absurd hb (List.not_mem_nil)
  · have h1' : (readS k s).fin = 1 := h1
    have h6' : (unpackL k.set.ord s).length < (readS k s).pos + (readS k s).k.width ∧ 0 + (readS k s).codes.length < 3100 := h6 h1
    refine ⟨?_, by show (readS k s).codes.length < 3100; omega⟩
    have hb : (rvS k s).bits = (unpackL k.set.ord s).drop (readS k s).pos := if_pos h1'
    have e6 : (unpackL k.set.ord s).length < (readS k s).pos + (readS k s).k.width := h6'.1
    have e2 : (readS k s).pos ≤ (unpackL k.set.ord s).length := h2
    rw [hb, List.length_drop]
    show _ < (readS k s).k.width
    omega
  · exact if_neg h1
theorem rvS_nil {k : KnD} (hk : k.Ok) : rvS k [] = ⟨k, [], 0, 0, 1⟩ := rfl
theorem rvS_read {k : KnD} (hk : k.Ok) (hv : k.vl) (s t : List UInt8) :
    ((rvS k s).read t).1 = rvS k (s ++ t) ∧ (readS k (s ++ t)).data = (readS k s).data ++ ((rvS k s).read t).2.1 ∧
    ((readS k (s ++ t)).fin ≠ 1 → (readS k s).fin = 1 → s.length + ((rvS k s).read t).2.2 = ((readS k (s ++ t)).pos + 7) / 8) ∧
    ((readS k (s ++ t)).fin = 1 → (readS k s).fin = 1 ∧ ((rvS k s).read t).2.2 = t.length) := by
  have hul := unpackL_length k.set.ord s
  have hult := unpackL_length k.set.ord t
  have hst : unpackL k.set.ord (s ++ t) = unpackL k.set.ord s ++ unpackL k.set.ord t := by simp [unpackL]
  obtain ⟨-, h2, h3, h4, h5, h6, -⟩ := readN_one k.set.ord (unpackL k.set.ord s) 0 0 (8 * s.length) k 0 [] [] hk hv (by omega) (Nat.zero_le _) (by simp)
  have hM := readN_more k.set.ord (unpackL k.set.ord s) (unpackL k.set.ord t) 0 0 (8 * s.length) k 0 [] [] (8 * (s ++ t).length) hk (by omega) (by rw [List.length_append, List.length_append]; omega)
  have hW : readS k (s ++ t) = readN k.set.ord (unpackL k.set.ord s ++ unpackL k.set.ord t) 0 0 (8 * (s ++ t).length) k 0 [] [] := by unfold readS; rw [hst]
  rw [← hW] at hM
  have eS : readN k.set.ord (unpackL k.set.ord s) 0 0 (8 * s.length) k 0 [] [] = readS k s := rfl
  rw [eS] at hM h2 h3 h4 h5 h6
  by_cases h1 : (readS k s).fin = 1
  · obtain ⟨m', g1, g2⟩ := hM.2 h1
    obtain ⟨f1, f2⟩ := h6 h1
    have hA := readN_acc k.set.ord (unpackL k.set.ord s ++ unpackL k.set.ord t) 0 0 (readS k s).codes (readS k s).data m' (readS k s).k (readS k s).pos [] []
    rw [List.append_nil, List.append_nil] at hA
    have hS := readN_shift k.set.ord (unpackL k.set.ord s ++ unpackL k.set.ord t) (readS k s).pos (0 + (readS k s).data.length) (0 + (readS k s).codes.length) (by rw [List.length_append]; omega) m' (readS k s).k 0 [] []
    rw [Nat.add_zero] at hS
    have hD : (unpackL k.set.ord s ++ unpackL k.set.ord t).drop (readS k s).pos = (unpackL k.set.ord s).drop (readS k s).pos ++ unpackL k.set.ord t := List.drop_append_of_le_length h2
    rw [hD] at hS
    rw [hS] at hA
    rw [Nat.zero_add, Nat.zero_add] at hA
    have hbl : (rvS k s).bits = (unpackL k.set.ord s).drop (readS k s).pos := if_pos h1
    have hgot : (rvS k s).got t = readN k.set.ord ((unpackL k.set.ord s).drop (readS k s).pos ++ unpackL k.set.ord t) (readS k s).data.length (readS k s).codes.length m' (readS k s).k 0 [] [] := by
      unfold RvD.got
      rw [hbl]
      show readN (readS k s).k.set.ord (_ ++ unpackL (readS k s).k.set.ord t) (readS k s).data.length (readS k s).codes.length (_ ++ unpackL (readS k s).k.set.ord t).length (readS k s).k 0 [] [] = _
      rw [h5]
      exact (readN_fuel h3 h4 (by omega) (by rw [List.length_append, List.length_drop]; rw [List.length_append] at g1; omega) (Nat.zero_le _) (by simp; omega)).symm
    rw [← hgot] at hA
    have hG : readS k (s ++ t) = ⟨((rvS k s).got t).k, (readS k s).codes ++ ((rvS k s).got t).codes, (readS k s).data ++ ((rvS k s).got t).data, ((rvS k s).got t).fin, (readS k s).pos + ((rvS k s).got t).pos⟩ := g2.trans hA
    have hrd : (rvS k s).read t = (⟨((rvS k s).got t).k, if ((rvS k s).got t).fin = 1 then ((rvS k s).bits ++ unpackL (rvS k s).k.set.ord t).drop ((rvS k s).got t).pos else [], (rvS k s).size + ((rvS k s).got t).data.length, (rvS k s).cnt + ((rvS k s).got t).codes.length, ((rvS k s).got t).fin⟩, ((rvS k s).got t).data, if ((rvS k s).got t).fin = 1 then t.length else (((rvS k s).got t).pos - (rvS k s).bits.length + 7) / 8) := by
      unfold RvD.read
      rw [if_neg (fun h => h h1)]
    rw [hrd]
    have hone := readN_one k.set.ord ((unpackL k.set.ord s).drop (readS k s).pos ++ unpackL k.set.ord t) (readS k s).data.length (readS k s).codes.length m' (readS k s).k 0 [] [] h3 h4 (by rw [List.length_append, List.length_drop]; rw [List.length_append] at g1; omega) (Nat.zero_le _) (by simp; omega)
    rw [← hgot] at hone
    obtain ⟨-, o2, -, -, -, -, o7⟩ := hone
    refine ⟨?_, ?_, fun hn _ => ?_, fun hn => ⟨h1, ?_⟩⟩
    · have e : rvS k (s ++ t) = ⟨((rvS k s).got t).k, if ((rvS k s).got t).fin = 1 then (unpackL k.set.ord (s ++ t)).drop ((readS k s).pos + ((rvS k s).got t).pos) else [], ((readS k s).data ++ ((rvS k s).got t).data).length, ((readS k s).codes ++ ((rvS k s).got t).codes).length, ((rvS k s).got t).fin⟩ := by
        show (⟨(readS k (s ++ t)).k, if (readS k (s ++ t)).fin = 1 then (unpackL k.set.ord (s ++ t)).drop (readS k (s ++ t)).pos else [], (readS k (s ++ t)).data.length, (readS k (s ++ t)).codes.length, (readS k (s ++ t)).fin⟩ : RvD) = _
        rw [hG]
      have hko : (rvS k s).k.set.ord = k.set.ord := by show (readS k s).k.set.ord = _; rw [h5]
      have hz : (rvS k s).size = (readS k s).data.length := rfl
      have hz2 : (rvS k s).cnt = (readS k s).codes.length := rfl
      rw [e, hst, List.length_append, List.length_append, hbl, hko, hz, hz2, ← List.drop_drop, hD]
    · rw [hG]
    · rw [hG] at hn
      have hn' : ¬ ((rvS k s).got t).fin = 1 := hn
      have hw := (o7 hn').2
      rw [hG]
      show s.length + (if _ then _ else _) = ((readS k s).pos + ((rvS k s).got t).pos + 7) / 8
      rw [if_neg hn', hbl, List.length_drop]
      omega
    · rw [hG] at hn
      exact if_pos hn
  · have hE := hM.1 h1
    rw [hE]
    have hrd : (rvS k s).read t = (rvS k s, [], 0) := by
      unfold RvD.read
      exact if_pos h1
    rw [hrd]
    refine ⟨?_, by simp, fun _ h => absurd h h1, fun h => absurd h h1⟩
    unfold rvS
    rw [hE, if_neg h1, if_neg h1]
theorem RvD.read_bd {r : RvD} (h : RvOk r) {s : List UInt8} (hs : s.length ≤ 4000) : (r.read s).2.1.length ≤ 2000 ∧ (r.read s).2.2 ≤ 4000 := by
  have hul := unpackL_length r.k.set.ord s
  unfold RvD.read
  by_cases h1 : r.fin = 1
  · rw [if_neg (fun e => e h1)]
    obtain ⟨s1, s2⟩ := h.short h1
    have hw := KnD.width_bd h.ok
    have hF := readN_fin (o := r.k.set.ord) (ct := r.cnt) (r.bits ++ unpackL r.k.set.ord s).length r.k 0 [] [] (RdInv.start (bits := r.bits ++ unpackL r.k.set.ord s) h.ok h.size) (by simp; omega)
    have h2 := hF.dl
    have h3 := hF.pos
    have hbl : (r.bits ++ unpackL r.k.set.ord s).length = r.bits.length + 8 * s.length := by rw [List.length_append, hul]
    have e : readN r.k.set.ord (r.bits ++ unpackL r.k.set.ord s) r.size r.cnt (r.bits ++ unpackL r.k.set.ord s).length r.k 0 [] [] = r.got s := rfl
    rw [e] at h2 h3
    refine ⟨by show (r.got s).data.length ≤ 2000; omega, ?_⟩
    show (if (r.got s).fin = 1 then s.length else ((r.got s).pos - r.bits.length + 7) / 8) ≤ 4000
    have h4 : (r.got s).pos - r.bits.length ≤ 32000 := by omega
    generalize (r.got s).pos - r.bits.length = q at *
    split <;> omega
  · rw [if_pos h1]
    exact ⟨by simp, by simp⟩
end Go.Proofs.YtgbakgaegldomaaGreat

