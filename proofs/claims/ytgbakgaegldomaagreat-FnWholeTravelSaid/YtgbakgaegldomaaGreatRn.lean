/- Plain: what reading codes from bits gives. Conditions: as each says. -/
import Derived.Test.YtgbakgaegldomaaGreatComp
import Derived.Test.YtgbakgaegldomaaGreatGw2
import Derived.Test.YtgbakgaegldomaaGreatBp
namespace Go.Proofs.YtgbakgaegldomaaGreat
set_option linter.unusedVariables false
set_option linter.unusedSimpArgs false
open Go Go.RowKit

/-- What reading codes gives: what is known, the codes, the data, how it ends, and where. -/
structure RdR where
  k : KnD
  codes : List Int
  data : List UInt8
  fin : Int
  pos : Nat
def codeAt (o : Int) (bits : List UInt8) (p wd : Nat) : Int := numL o ((bits.drop p).take wd)
def readN (o : Int) (bits : List UInt8) (sz ct : Nat) : Nat → KnD → Nat → List Int → List UInt8 → RdR
  | 0, k, p, cs, d => ⟨k, cs, d, 1, p⟩
  | n + 1, k, p, cs, d =>
    if bits.length < p + k.width then ⟨k, cs, d, 1, p⟩
    else if codeAt o bits p k.width = (k.c : Int) + 1 then ⟨k, cs ++ [codeAt o bits p k.width], d, 0, p + k.width⟩
    else if codeAt o bits p k.width = (k.c : Int) then
      if 3100 ≤ ct + (cs.length + 1) then ⟨k.cleared, cs ++ [codeAt o bits p k.width], d, 3, p + k.width⟩ else readN o bits sz ct n k.cleared (p + k.width) (cs ++ [codeAt o bits p k.width]) d
    else if k.follows (codeAt o bits p k.width) = false then ⟨k, cs, d, 2, p + k.width⟩
    else if 2000 < sz + d.length + (k.any (codeAt o bits p k.width)).length then ⟨k, cs, d, 3, p + k.width⟩
    else if 3100 ≤ ct + (cs.length + 1) then ⟨k.after (codeAt o bits p k.width), cs ++ [codeAt o bits p k.width], d ++ k.any (codeAt o bits p k.width), 3, p + k.width⟩
    else readN o bits sz ct n (k.after (codeAt o bits p k.width)) (p + k.width) (cs ++ [codeAt o bits p k.width]) (d ++ k.any (codeAt o bits p k.width))

section
variable {o : Int} {bits : List UInt8} {sz ct n : Nat} {k : KnD} {p : Nat} {cs : List Int} {d : List UInt8} {x : Int}
theorem readN_short (h : bits.length < p + k.width) : readN o bits sz ct n k p cs d = ⟨k, cs, d, 1, p⟩ := by
  cases n with
  | zero => rfl
  | succ n => rw [readN, if_pos h]
theorem readN_end (hx : codeAt o bits p k.width = x) (h : ¬ bits.length < p + k.width) (h1 : x = (k.c : Int) + 1) : readN o bits sz ct (n + 1) k p cs d = ⟨k, cs ++ [x], d, 0, p + k.width⟩ := by
  rw [readN, hx, if_neg h, if_pos h1]
theorem readN_clearL (hx : codeAt o bits p k.width = x) (h : ¬ bits.length < p + k.width) (h1 : x = (k.c : Int)) (h2 : 3100 ≤ ct + (cs.length + 1)) : readN o bits sz ct (n + 1) k p cs d = ⟨k.cleared, cs ++ [x], d, 3, p + k.width⟩ := by
  rw [readN, hx, if_neg h, if_neg (by omega), if_pos h1, if_pos h2]
theorem readN_clear (hx : codeAt o bits p k.width = x) (h : ¬ bits.length < p + k.width) (h1 : x = (k.c : Int)) (h2 : ¬ 3100 ≤ ct + (cs.length + 1)) : readN o bits sz ct (n + 1) k p cs d = readN o bits sz ct n k.cleared (p + k.width) (cs ++ [x]) d := by
  rw [readN, hx, if_neg h, if_neg (by omega), if_pos h1, if_neg h2]
theorem readN_wrong (hx : codeAt o bits p k.width = x) (h : ¬ bits.length < p + k.width) (h1 : x ≠ (k.c : Int) + 1) (h2 : x ≠ (k.c : Int)) (h3 : k.follows x = false) : readN o bits sz ct (n + 1) k p cs d = ⟨k, cs, d, 2, p + k.width⟩ := by
  rw [readN, hx, if_neg h, if_neg h1, if_neg h2, if_pos h3]
theorem readN_long (hx : codeAt o bits p k.width = x) (h : ¬ bits.length < p + k.width) (h1 : x ≠ (k.c : Int) + 1) (h2 : x ≠ (k.c : Int)) (h3 : k.follows x = true) (h4 : 2000 < sz + d.length + (k.any x).length) : readN o bits sz ct (n + 1) k p cs d = ⟨k, cs, d, 3, p + k.width⟩ := by
  rw [readN, hx, if_neg h, if_neg h1, if_neg h2, if_neg (by rw [h3]; decide), if_pos h4]
theorem readN_wordL (hx : codeAt o bits p k.width = x) (h : ¬ bits.length < p + k.width) (h1 : x ≠ (k.c : Int) + 1) (h2 : x ≠ (k.c : Int)) (h3 : k.follows x = true) (h4 : ¬ 2000 < sz + d.length + (k.any x).length) (h5 : 3100 ≤ ct + (cs.length + 1)) :
    readN o bits sz ct (n + 1) k p cs d = ⟨k.after x, cs ++ [x], d ++ k.any x, 3, p + k.width⟩ := by
  rw [readN, hx, if_neg h, if_neg h1, if_neg h2, if_neg (by rw [h3]; decide), if_neg h4, if_pos h5]
theorem readN_word (hx : codeAt o bits p k.width = x) (h : ¬ bits.length < p + k.width) (h1 : x ≠ (k.c : Int) + 1) (h2 : x ≠ (k.c : Int)) (h3 : k.follows x = true) (h4 : ¬ 2000 < sz + d.length + (k.any x).length) (h5 : ¬ 3100 ≤ ct + (cs.length + 1)) :
    readN o bits sz ct (n + 1) k p cs d = readN o bits sz ct n (k.after x) (p + k.width) (cs ++ [x]) (d ++ k.any x) := by
  rw [readN, hx, if_neg h, if_neg h1, if_neg h2, if_neg (by rw [h3]; decide), if_neg h4, if_neg h5]
end

theorem codeAt_bd {o : Int} {bits : List UInt8} (hb : isBits bits) {p wd : Nat} (hw : wd ≤ 16) : 0 ≤ codeAt o bits p wd ∧ codeAt o bits p wd < 65536 := by
  have h := numL_bd (o := o) (l := (bits.drop p).take wd) ((hb.drop _).take _)
  have hl : ((bits.drop p).take wd).length ≤ wd := by rw [List.length_take]; omega
  have := pow_len hl hw
  unfold codeAt
  omega

/-- What holds at all times of a reading that has begun at k0. -/
structure RdInv (bits : List UInt8) (sz : Nat) (k0 : KnD) (k : KnD) (p : Nat) (cs : List Int) (d : List UInt8) : Prop where
  ok : k.Ok
  set : k.set = k0.set
  pos : p ≤ bits.length
  dl : sz + d.length ≤ 2000
  walk : ∀ ys, ∃ ws, walkN k0 (cs ++ ys) [] [] = walkN k ys ws d
theorem RdInv.start {bits : List UInt8} {sz : Nat} {k : KnD} (h : k.Ok) (hs : sz ≤ 2000) : RdInv bits sz k k 0 [] [] := ⟨h, rfl, Nat.zero_le _, by simpa using hs, fun ys => ⟨[], rfl⟩⟩
theorem RdInv.clear {bits : List UInt8} {sz : Nat} {k0 k : KnD} {p : Nat} {cs : List Int} {d : List UInt8} (h : RdInv bits sz k0 k p cs d) (hp : ¬ bits.length < p + k.width) : RdInv bits sz k0 k.cleared (p + k.width) (cs ++ [(k.c : Int)]) d :=
  ⟨KnD.cleared_ok h.ok, h.set, by omega, h.dl, fun ys => by
    obtain ⟨ws, hw⟩ := h.walk ((k.c : Int) :: ys)
    refine ⟨ws ++ [(k.width : Int)], ?_⟩
    rw [List.append_assoc]
    show walkN k0 (cs ++ (k.c : Int) :: ys) [] [] = _
    rw [hw, walkN_clear rfl]⟩
theorem RdInv.word {bits : List UInt8} {sz : Nat} {k0 k : KnD} {p : Nat} {cs : List Int} {d : List UInt8} {x : Int} (h : RdInv bits sz k0 k p cs d) (hp : ¬ bits.length < p + k.width) (h1 : x ≠ (k.c : Int) + 1) (h2 : x ≠ (k.c : Int)) (h3 : k.follows x = true) (h4 : ¬ 2000 < sz + d.length + (k.any x).length) : RdInv bits sz k0 (k.after x) (p + k.width) (cs ++ [x]) (d ++ k.any x) :=
  ⟨KnD.after_ok h.ok h3, h.set, by omega, by rw [List.length_append]; omega, fun ys => by
    obtain ⟨ws, hw⟩ := h.walk (x :: ys)
    have := h.dl
    refine ⟨ws ++ [(k.width : Int)], ?_⟩
    rw [List.append_assoc]
    show walkN k0 (cs ++ x :: ys) [] [] = _
    rw [hw, walkN_word h1 h2 h3 (by omega)]⟩

/-- What holds of a reading's result. -/
structure RdFin (bits : List UInt8) (sz ct : Nat) (k0 : KnD) (R : RdR) : Prop where
  ok : R.k.Ok
  set : R.k.set = k0.set
  pos : R.pos ≤ bits.length
  dl : sz + R.data.length ≤ 2000
  fin : 0 ≤ R.fin ∧ R.fin ≤ 3
  cl : ct + R.codes.length ≤ 3100
  walk : (walkN k0 R.codes [] []).data = R.data
  kind : R.fin = 0 ∨ R.fin = 1 ∨ R.fin = 2 ∨ R.fin = 3
theorem readN_fin {o : Int} {bits : List UInt8} {sz ct : Nat} {k0 : KnD} : ∀ (n : Nat) (k : KnD) (p : Nat) (cs : List Int) (d : List UInt8), RdInv bits sz k0 k p cs d → ct + cs.length < 3100 → RdFin bits sz ct k0 (readN o bits sz ct n k p cs d) := by
  intro n
  induction n with
  | zero =>
    intro k p cs d h hc
    obtain ⟨ws, hw⟩ := h.walk []
    rw [List.append_nil] at hw
    exact ⟨h.ok, h.set, h.pos, h.dl, by show (0 : Int) ≤ 1 ∧ (1 : Int) ≤ 3; omega, by show ct + cs.length ≤ 3100; omega, by show (walkN k0 cs [] []).data = d; rw [hw]; rfl, .inr (.inl rfl)⟩
  | succ n ih =>
    intro k p cs d h hc
    have hcs : ∀ y : Int, (cs ++ [y]).length = cs.length + 1 := fun y => by simp
    have hdl := h.dl
    by_cases hp : bits.length < p + k.width
    · rw [readN_short hp]
      obtain ⟨ws, hw⟩ := h.walk []
      rw [List.append_nil] at hw
      exact ⟨h.ok, h.set, h.pos, h.dl, by show (0 : Int) ≤ 1 ∧ (1 : Int) ≤ 3; omega, by show ct + cs.length ≤ 3100; omega, by show (walkN k0 cs [] []).data = d; rw [hw]; rfl, .inr (.inl rfl)⟩
    · obtain ⟨x, hx⟩ : ∃ x, codeAt o bits p k.width = x := ⟨_, rfl⟩
      by_cases h1 : x = (k.c : Int) + 1
      · rw [readN_end hx hp h1]
        obtain ⟨ws, hw⟩ := h.walk [x]
        exact ⟨h.ok, h.set, by show p + k.width ≤ bits.length; omega, h.dl, by show (0 : Int) ≤ 0 ∧ (0 : Int) ≤ 3; omega, by show ct + (cs ++ [x]).length ≤ 3100; rw [hcs]; omega, by show (walkN k0 (cs ++ [x]) [] []).data = d; rw [hw, walkN_end h1], .inl rfl⟩
      · by_cases h2 : x = (k.c : Int)
        · have hi := h.clear hp
          rw [← h2] at hi
          by_cases h5 : 3100 ≤ ct + (cs.length + 1)
          · rw [readN_clearL hx hp h2 h5]
            obtain ⟨ws, hw⟩ := hi.walk []
            rw [List.append_nil] at hw
            exact ⟨hi.ok, hi.set, hi.pos, hi.dl, by show (0 : Int) ≤ 3 ∧ (3 : Int) ≤ 3; omega, by show ct + (cs ++ [x]).length ≤ 3100; rw [hcs]; omega, by show (walkN k0 (cs ++ [x]) [] []).data = d; rw [hw]; rfl, .inr (.inr (.inr rfl))⟩
          · rw [readN_clear hx hp h2 h5]
            exact ih _ _ _ _ hi (by rw [hcs]; omega)
        · cases h3 : k.follows x
          · rw [readN_wrong hx hp h1 h2 h3]
            obtain ⟨ws, hw⟩ := h.walk []
            rw [List.append_nil] at hw
            exact ⟨h.ok, h.set, by show p + k.width ≤ bits.length; omega, h.dl, by show (0 : Int) ≤ 2 ∧ (2 : Int) ≤ 3; omega, by show ct + cs.length ≤ 3100; omega, by show (walkN k0 cs [] []).data = d; rw [hw]; rfl, .inr (.inr (.inl rfl))⟩
          · by_cases h4 : 2000 < sz + d.length + (k.any x).length
            · rw [readN_long hx hp h1 h2 h3 h4]
              obtain ⟨ws, hw⟩ := h.walk []
              rw [List.append_nil] at hw
              exact ⟨h.ok, h.set, by show p + k.width ≤ bits.length; omega, h.dl, by show (0 : Int) ≤ 3 ∧ (3 : Int) ≤ 3; omega, by show ct + cs.length ≤ 3100; omega, by show (walkN k0 cs [] []).data = d; rw [hw]; rfl, .inr (.inr (.inr rfl))⟩
            · have hi := h.word hp h1 h2 h3 h4
              by_cases h5 : 3100 ≤ ct + (cs.length + 1)
              · rw [readN_wordL hx hp h1 h2 h3 h4 h5]
                obtain ⟨ws, hw⟩ := hi.walk []
                rw [List.append_nil] at hw
                exact ⟨hi.ok, hi.set, hi.pos, hi.dl, by show (0 : Int) ≤ 3 ∧ (3 : Int) ≤ 3; omega, by show ct + (cs ++ [x]).length ≤ 3100; rw [hcs]; omega, by show (walkN k0 (cs ++ [x]) [] []).data = d ++ k.any x; rw [hw]; simp [walkN], .inr (.inr (.inr rfl))⟩
              · rw [readN_word hx hp h1 h2 h3 h4 h5]
                exact ih _ _ _ _ hi (by rw [hcs]; omega)

/-- The bits of bytes. -/
def unpackL (o : Int) (s : List UInt8) : List UInt8 := s.flatMap fun b => codeL o b.toNat 8
theorem unpackL_snoc (o : Int) (s : List UInt8) (b : UInt8) : unpackL o (s ++ [b]) = unpackL o s ++ codeL o b.toNat 8 := by simp [unpackL]
theorem unpackL_length (o : Int) (s : List UInt8) : (unpackL o s).length = 8 * s.length := by
  induction s using snoc_ind with
  | h0 => rfl
  | h1 l a ih => rw [unpackL_snoc, List.length_append, ih, codeL_length, List.length_append]; simp; omega
theorem isBits_unpack (o : Int) (s : List UInt8) : isBits (unpackL o s) := fun b hb => by
  unfold unpackL at hb
  obtain ⟨x, -, hx⟩ := List.mem_flatMap.1 hb
  exact isBits_code o _ 8 b hx
/-- Reading a stream from its first bit on. -/
def readS (k : KnD) (s : List UInt8) : RdR := readN k.set.ord (unpackL k.set.ord s) 0 0 (8 * s.length) k 0 [] []
def usedS (s : List UInt8) (R : RdR) : Nat := if R.fin = 1 then s.length else (R.pos + 7) / 8
theorem readS_fin {k : KnD} (h : k.Ok) (s : List UInt8) : RdFin (unpackL k.set.ord s) 0 0 k (readS k s) := readN_fin _ _ _ _ _ (RdInv.start h (by omega)) (by simp)
/-- What decompressing a stream gives: the data, how it ends, how many bytes are used. -/
structure DecR where
  data : List UInt8
  fin : Int
  used : Nat
def decK (k : KnD) (s : List UInt8) : DecR := if s.length ≤ 4000 then ⟨(readS k s).data, (readS k s).fin, usedS s (readS k s)⟩ else ⟨[], 4, 0⟩
def decV (R : DecR) : Value := .tuple #[.string (bs R.data), .int .i64 R.fin, .int .i64 R.used]
def decW (s : SetD) (dict st : List UInt8) : DecR := if fitsB s dict then decK (learnK (startK s) dict) st else ⟨[], 4, 0⟩
theorem usedS_bd {k : KnD} (h : k.Ok) (s : List UInt8) : usedS s (readS k s) ≤ s.length := by
  have hf := (readS_fin h s).pos
  rw [unpackL_length] at hf
  unfold usedS
  split <;> omega
theorem decK_bd {k : KnD} (h : k.Ok) (s : List UInt8) : (decK k s).data.length ≤ 2000 ∧ 0 ≤ (decK k s).fin ∧ (decK k s).fin ≤ 4 ∧ (decK k s).used ≤ s.length := by
  unfold decK
  split
  · have hf := readS_fin h s
    have hd := hf.dl
    have h1 := hf.fin
    exact ⟨by show (readS k s).data.length ≤ 2000; omega, h1.1, by show (readS k s).fin ≤ 4; omega, usedS_bd h s⟩
  · exact ⟨by simp, by decide, by show (4 : Int) ≤ 4; omega, Nat.zero_le _⟩
theorem decW_bd (s : SetD) (dict st : List UInt8) : (decW s dict st).data.length ≤ 2000 ∧ 0 ≤ (decW s dict st).fin ∧ (decW s dict st).fin ≤ 4 ∧ (decW s dict st).used ≤ st.length := by
  unfold decW
  split
  · next h =>
    obtain ⟨f1, f2, f3⟩ := fitsB_lits h
    exact decK_bd (learnK_ok (startK_ok f1) f3) st
  · exact ⟨by simp, by decide, by show (4 : Int) ≤ 4; omega, Nat.zero_le _⟩

end Go.Proofs.YtgbakgaegldomaaGreat
