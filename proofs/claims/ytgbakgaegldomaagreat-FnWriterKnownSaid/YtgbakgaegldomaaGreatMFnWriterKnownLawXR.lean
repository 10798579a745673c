/- Texts joined into one: the walks and laws that the last text leans on. Conditions: as each says. -/
import Derived.Test.YtgbakgaegldomaaGreatMFnWriterKnownLawN
import Derived.Test.YtgbakgaegldomaaGreatMFnWriterKnownLawX
import Derived.Test.YtgbakgaegldomaaGreatMFnWriterKnownLawR
import Derived.Test.YtgbakgaegldomaaGreatMFnWriterKnownLawXQ
import Derived.Test.YtgbakgaegldomaaGreatMFnWriterKnownLawXP
import Derived.Test.YtgbakgaegldomaaGreatMFnWriterKnownLawY

set_option linter.unusedVariables false
set_option linter.unusedSimpArgs false
/- Plain: what reading codes from bits gives. Conditions: as each says. -/
namespace Go.Proofs.YtgbakgaegldomaaGreat
open Go Go.RowKit
structure RdR where
  k : KnD
  codes : List Int
  data : List UInt8
  fin : Int
  pos : Nat
def codeAt (o : Int) (bits : List UInt8) (p wd : Nat) : Int := numL o ((bits.drop p).take wd)
def readN (o : Int) (bits : List UInt8) (sz ct : Nat) : Nat → KnD → Nat → List Int → List UInt8 → RdR
  | 0, k, p, cs, d => ⟨k, cs, d, 1, p⟩
  | n + 1, k, p, cs, d =>
    if bits.length < p + k.width then ⟨k, cs, d, 1, p⟩
    else if codeAt o bits p k.width = (k.c : Int) + 1 then ⟨k, cs ++ [codeAt o bits p k.width], d, 0, p + k.width⟩
    else if codeAt o bits p k.width = (k.c : Int) then
      if 3100 ≤ ct + (cs.length + 1) then ⟨k.cleared, cs ++ [codeAt o bits p k.width], d, 3, p + k.width⟩ else readN o bits sz ct n k.cleared (p + k.width) (cs ++ [codeAt o bits p k.width]) d
    else if k.follows (codeAt o bits p k.width) = false then ⟨k, cs, d, 2, p + k.width⟩
    else if 2000 < sz + d.length + (k.any (codeAt o bits p k.width)).length then ⟨k, cs, d, 3, p + k.width⟩
    else if 3100 ≤ ct + (cs.length + 1) then ⟨k.after (codeAt o bits p k.width), cs ++ [codeAt o bits p k.width], d ++ k.any (codeAt o bits p k.width), 3, p + k.width⟩
    else readN o bits sz ct n (k.after (codeAt o bits p k.width)) (p + k.width) (cs ++ [codeAt o bits p k.width]) (d ++ k.any (codeAt o bits p k.width))
section
variable {o : Int} {bits : List UInt8} {sz ct n : Nat} {k : KnD} {p : Nat} {cs : List Int} {d : List UInt8} {x : Int}
theorem readN_short (h : bits.length < p + k.width) : readN o bits sz ct n k p cs d = ⟨k, cs, d, 1, p⟩ := by
  cases n with
  | zero => rfl
  | succ n => rw [readN, if_pos h]
theorem readN_end (hx : codeAt o bits p k.width = x) (h : ¬ bits.length < p + k.width) (h1 : x = (k.c : Int) + 1) : readN o bits sz ct (n + 1) k p cs d = ⟨k, cs ++ [x], d, 0, p + k.width⟩ := by
  rw [readN, hx, if_neg h, if_pos h1]
theorem readN_clearL (hx : codeAt o bits p k.width = x) (h : ¬ bits.length < p + k.width) (h1 : x = (k.c : Int)) (h2 : 3100 ≤ ct + (cs.length + 1)) : readN o bits sz ct (n + 1) k p cs d = ⟨k.cleared, cs ++ [x], d, 3, p + k.width⟩ := by
  rw [readN, hx, if_neg h, if_neg (by omega), if_pos h1, if_pos h2]
theorem readN_clear (hx : codeAt o bits p k.width = x) (h : ¬ bits.length < p + k.width) (h1 : x = (k.c : Int)) (h2 : ¬ 3100 ≤ ct + (cs.length + 1)) : readN o bits sz ct (n + 1) k p cs d = readN o bits sz ct n k.cleared (p + k.width) (cs ++ [x]) d := by
  rw [readN, hx, if_neg h, if_neg (by omega), if_pos h1, if_neg h2]
theorem readN_wrong (hx : codeAt o bits p k.width = x) (h : ¬ bits.length < p + k.width) (h1 : x ≠ (k.c : Int) + 1) (h2 : x ≠ (k.c : Int)) (h3 : k.follows x = false) : readN o bits sz ct (n + 1) k p cs d = ⟨k, cs, d, 2, p + k.width⟩ := by
  rw [readN, hx, if_neg h, if_neg h1, if_neg h2, if_pos h3]
theorem readN_long (hx : codeAt o bits p k.width = x) (h : ¬ bits.length < p + k.width) (h1 : x ≠ (k.c : Int) + 1) (h2 : x ≠ (k.c : Int)) (h3 : k.follows x = true) (h4 : 2000 < sz + d.length + (k.any x).length) : readN o bits sz ct (n + 1) k p cs d = ⟨k, cs, d, 3, p + k.width⟩ := by
  rw [readN, hx, if_neg h, if_neg h1, if_neg h2, if_neg (by rw [h3]; decide), if_pos h4]
theorem readN_wordL (hx : codeAt o bits p k.width = x) (h : ¬ bits.length < p + k.width) (h1 : x ≠ (k.c : Int) + 1) (h2 : x ≠ (k.c : Int)) (h3 : k.follows x = true) (h4 : ¬ 2000 < sz + d.length + (k.any x).length) (h5 : 3100 ≤ ct + (cs.length + 1)) :
    readN o bits sz ct (n + 1) k p cs d = ⟨k.after x, cs ++ [x], d ++ k.any x, 3, p + k.width⟩ := by
  rw [readN, hx, if_neg h, if_neg h1, if_neg h2, if_neg (by rw [h3]; decide), if_neg h4, if_pos h5]
theorem readN_word (hx : codeAt o bits p k.width = x) (h : ¬ bits.length < p + k.width) (h1 : x ≠ (k.c : Int) + 1) (h2 : x ≠ (k.c : Int)) (h3 : k.follows x = true) (h4 : ¬ 2000 < sz + d.length + (k.any x).length) (h5 : ¬ 3100 ≤ ct + (cs.length + 1)) :
    readN o bits sz ct (n + 1) k p cs d = readN o bits sz ct n (k.after x) (p + k.width) (cs ++ [x]) (d ++ k.any x) := by
  rw [readN, hx, if_neg h, if_neg h1, if_neg h2, if_neg (by rw [h3]; decide), if_neg h4, if_neg h5]
end
theorem codeAt_bd {o : Int} {bits : List UInt8} (hb : isBits bits) {p wd : Nat} (hw : wd ≤ 16) : 0 ≤ codeAt o bits p wd ∧ codeAt o bits p wd < 65536 := by
  have h := numL_bd (o := o) (l := (bits.drop p).take wd) ((hb.drop _).take _)
  have hl : ((bits.drop p).take wd).length ≤ wd := by rw [List.length_take]; omega
  have := pow_len hl hw
  unfold codeAt
  omega
structure RdInv (bits : List UInt8) (sz : Nat) (k0 : KnD) (k : KnD) (p : Nat) (cs : List Int) (d : List UInt8) : Prop where
  ok : k.Ok
  set : k.set = k0.set
  pos : p ≤ bits.length
  dl : sz + d.length ≤ 2000
  walk : ∀ ys, ∃ ws, walkN k0 (cs ++ ys) [] [] = walkN k ys ws d
theorem RdInv.start {bits : List UInt8} {sz : Nat} {k : KnD} (h : k.Ok) (hs : sz ≤ 2000) : RdInv bits sz k k 0 [] [] := ⟨h, rfl, Nat.zero_le _, by simpa using hs, fun ys => ⟨[], rfl⟩⟩
theorem RdInv.clear {bits : List UInt8} {sz : Nat} {k0 k : KnD} {p : Nat} {cs : List Int} {d : List UInt8} (h : RdInv bits sz k0 k p cs d) (hp : ¬ bits.length < p + k.width) : RdInv bits sz k0 k.cleared (p + k.width) (cs ++ [(k.c : Int)]) d :=
  ⟨KnD.cleared_ok h.ok, h.set, by omega, h.dl, fun ys => by
    obtain ⟨ws, hw⟩ := h.walk ((k.c : Int) :: ys)
    refine ⟨ws ++ [(k.width : Int)], ?_⟩
    rw [List.append_assoc]
    show walkN k0 (cs ++ (k.c : Int) :: ys) [] [] = _
    rw [hw, walkN_clear rfl]⟩
theorem RdInv.word {bits : List UInt8} {sz : Nat} {k0 k : KnD} {p : Nat} {cs : List Int} {d : List UInt8} {x : Int} (h : RdInv bits sz k0 k p cs d) (hp : ¬ bits.length < p + k.width) (h1 : x ≠ (k.c : Int) + 1) (h2 : x ≠ (k.c : Int)) (h3 : k.follows x = true) (h4 : ¬ 2000 < sz + d.length + (k.any x).length) : RdInv bits sz k0 (k.after x) (p + k.width) (cs ++ [x]) (d ++ k.any x) :=
  ⟨KnD.after_ok h.ok h3, h.set, by omega, by rw [List.length_append]; omega, fun ys => by
    obtain ⟨ws, hw⟩ := h.walk (x :: ys)
    have := h.dl
    refine ⟨ws ++ [(k.width : Int)], ?_⟩
    rw [List.append_assoc]
    show walkN k0 (cs ++ x :: ys) [] [] = _
    rw [hw, walkN_word h1 h2 h3 (by omega)]⟩
structure RdFin (bits : List UInt8) (sz ct : Nat) (k0 : KnD) (R : RdR) : Prop where
  ok : R.k.Ok
  set : R.k.set = k0.set
  pos : R.pos ≤ bits.length
  dl : sz + R.data.length ≤ 2000
  fin : 0 ≤ R.fin ∧ R.fin ≤ 3
  cl : ct + R.codes.length ≤ 3100
  walk : (walkN k0 R.codes [] []).data = R.data
  kind : R.fin = 0 ∨ R.fin = 1 ∨ R.fin = 2 ∨ R.fin = 3
theorem readN_fin {o : Int} {bits : List UInt8} {sz ct : Nat} {k0 : KnD} : ∀ (n : Nat) (k : KnD) (p : Nat) (cs : List Int) (d : List UInt8), RdInv bits sz k0 k p cs d → ct + cs.length < 3100 → RdFin bits sz ct k0 (readN o bits sz ct n k p cs d) := by
  intro n
  induction n with
  | zero =>
    intro k p cs d h hc
    obtain ⟨ws, hw⟩ := h.walk []
    rw [List.append_nil] at hw
    exact ⟨h.ok, h.set, h.pos, h.dl, by show (0 : Int) ≤ 1 ∧ (1 : Int) ≤ 3; omega, by show ct + cs.length ≤ 3100; omega, by show (walkN k0 cs [] []).data = d; rw [hw]; rfl, .inr (.inl rfl)⟩
  | succ n ih =>
    intro k p cs d h hc
    have hcs : ∀ y : Int, (cs ++ [y]).length = cs.length + 1 := fun y => by simp
    have hdl := h.dl
    by_cases hp : bits.length < p + k.width
    · rw [readN_short hp]
      obtain ⟨ws, hw⟩ := h.walk []
      rw [List.append_nil] at hw
      exact ⟨h.ok, h.set, h.pos, h.dl, by show (0 : Int) ≤ 1 ∧ (1 : Int) ≤ 3; omega, by show ct + cs.length ≤ 3100; omega, by show (walkN k0 cs [] []).data = d; rw [hw]; rfl, .inr (.inl rfl)⟩
    · obtain ⟨x, hx⟩ : ∃ x, codeAt o bits p k.width = x := ⟨_, rfl⟩
      by_cases h1 : x = (k.c : Int) + 1
      · rw [readN_end hx hp h1]
        obtain ⟨ws, hw⟩ := h.walk [x]
        exact ⟨h.ok, h.set, by show p + k.width ≤ bits.length; omega, h.dl, by show (0 : Int) ≤ 0 ∧ (0 : Int) ≤ 3; omega, by show ct + (cs ++ [x]).length ≤ 3100; rw [hcs]; omega, by show (walkN k0 (cs ++ [x]) [] []).data = d; rw [hw, walkN_end h1], .inl rfl⟩
      · by_cases h2 : x = (k.c : Int)
        · have hi := h.clear hp
          rw [← h2] at hi
          by_cases h5 : 3100 ≤ ct + (cs.length + 1)
          · rw [readN_clearL hx hp h2 h5]
            obtain ⟨ws, hw⟩ := hi.walk []
            rw [List.append_nil] at hw
            exact ⟨hi.ok, hi.set, hi.pos, hi.dl, by show (0 : Int) ≤ 3 ∧ (3 : Int) ≤ 3; omega, by show ct + (cs ++ [x]).length ≤ 3100; rw [hcs]; omega, by show (walkN k0 (cs ++ [x]) [] []).data = d; rw [hw]; rfl, .inr (.inr (.inr rfl))⟩
          · rw [readN_clear hx hp h2 h5]
            exact ih _ _ _ _ hi (by rw [hcs]; omega)
        · cases h3 : k.follows x
          · rw [readN_wrong hx hp h1 h2 h3]
            obtain ⟨ws, hw⟩ := h.walk []
            rw [List.append_nil] at hw
            exact ⟨h.ok, h.set, by show p + k.width ≤ bits.length; omega, h.dl, by show (0 : Int) ≤ 2 ∧ (2 : Int) ≤ 3; omega, by show ct + cs.length ≤ 3100; omega, by show (walkN k0 cs [] []).data = d; rw [hw]; rfl, .inr (.inr (.inl rfl))⟩
          · by_cases h4 : 2000 < sz + d.length + (k.any x).length
            · rw [readN_long hx hp h1 h2 h3 h4]
              obtain ⟨ws, hw⟩ := h.walk []
              rw [List.append_nil] at hw
              exact ⟨h.ok, h.set, by show p + k.width ≤ bits.length; omega, h.dl, by show (0 : Int) ≤ 3 ∧ (3 : Int) ≤ 3; omega, by show ct + cs.length ≤ 3100; omega, by show (walkN k0 cs [] []).data = d; rw [hw]; rfl, .inr (.inr (.inr rfl))⟩
            · have hi := h.word hp h1 h2 h3 h4
              by_cases h5 : 3100 ≤ ct + (cs.length + 1)
              · rw [readN_wordL hx hp h1 h2 h3 h4 h5]
                obtain ⟨ws, hw⟩ := hi.walk []
                rw [List.append_nil] at hw
                exact ⟨hi.ok, hi.set, hi.pos, hi.dl, by show (0 : Int) ≤ 3 ∧ (3 : Int) ≤ 3; omega, by show ct + (cs ++ [x]).length ≤ 3100; rw [hcs]; omega, by show (walkN k0 (cs ++ [x]) [] []).data = d ++ k.any x; rw [hw]; simp [walkN], .inr (.inr (.inr rfl))⟩
              · rw [readN_word hx hp h1 h2 h3 h4 h5]
                exact ih _ _ _ _ hi (by rw [hcs]; omega)
def unpackL (o : Int) (s : List UInt8) : List UInt8 := s.flatMap fun b => codeL o b.toNat 8
theorem unpackL_snoc (o : Int) (s : List UInt8) (b : UInt8) : unpackL o (s ++ [b]) = unpackL o s ++ codeL o b.toNat 8 := by simp [unpackL]
theorem unpackL_length (o : Int) (s : List UInt8) : (unpackL o s).length = 8 * s.length := by
  induction s using snoc_ind with
  | h0 => rfl
  | h1 l a ih => rw [unpackL_snoc, List.length_append, ih, codeL_length, List.length_append]; simp; omega
theorem isBits_unpack (o : Int) (s : List UInt8) : isBits (unpackL o s) := fun b hb => by
  unfold unpackL at hb
  obtain ⟨x, -, hx⟩ := List.mem_flatMap.1 hb
  exact isBits_code o _ 8 b hx
def readS (k : KnD) (s : List UInt8) : RdR := readN k.set.ord (unpackL k.set.ord s) 0 0 (8 * s.length) k 0 [] []
theorem readS_fin {k : KnD} (h : k.Ok) (s : List UInt8) : RdFin (unpackL k.set.ord s) 0 0 k (readS k s) := readN_fin _ _ _ _ _ (RdInv.start h (by omega)) (by simp)
structure DecR where
  data : List UInt8
  fin : Int
  used : Nat
end Go.Proofs.YtgbakgaegldomaaGreat

/- Plain: reading the stream of data gives the data again. Conditions: what is known is valid, the data fits. -/
namespace Go.Proofs.YtgbakgaegldomaaGreat
open Go Go.RowKit
/-! Bits and numbers. -/
theorem numF_fold (l : List UInt8) : ∀ a : Int, l.foldl (fun (n : Int) b => 2 * n + (b.toNat : Int) - 48) a = a * ((2 ^ l.length : Nat) : Int) + numF l := by
  induction l with
  | nil => intro a; simp [numF]
  | cons b l ih =>
    intro a
    have h0 : numF (b :: l) = l.foldl (fun (n : Int) b => 2 * n + (b.toNat : Int) - 48) (2 * 0 + (b.toNat : Int) - 48) := rfl
    rw [h0, List.foldl_cons, ih, ih, List.length_cons, Nat.pow_succ]
    simp only [Int.natCast_mul]
    generalize ((2 ^ l.length : Nat) : Int) = q
    have e : ((2 : Nat) : Int) = 2 := rfl
    rw [e, show (2 * a + (b.toNat : Int) - 48) * q = 2 * a * q + ((b.toNat : Int) - 48) * q by rw [← Int.add_mul]; congr 1; omega, show a * (q * 2) = 2 * a * q by rw [Int.mul_comm q 2, ← Int.mul_assoc, Int.mul_comm a 2], show (2 * 0 + (b.toNat : Int) - 48) * q = ((b.toNat : Int) - 48) * q by rw [show (2 * 0 + (b.toNat : Int) - 48) = (b.toNat : Int) - 48 by omega]]
    omega
theorem numF_cons (b : UInt8) (l : List UInt8) : numF (b :: l) = ((b.toNat : Int) - 48) * ((2 ^ l.length : Nat) : Int) + numF l := by
  have h0 : numF (b :: l) = l.foldl (fun (n : Int) b => 2 * n + (b.toNat : Int) - 48) (2 * 0 + (b.toNat : Int) - 48) := rfl
  rw [h0, numF_fold, show (2 * 0 + (b.toNat : Int) - 48) = (b.toNat : Int) - 48 by omega]
theorem numF_low (n wd : Nat) : numF (lowL n wd).reverse = ((n % 2 ^ wd : Nat) : Int) := by
  induction wd with
  | zero => simp [lowL, numF, Nat.mod_one]
  | succ wd ih =>
    rw [lowL_succ, List.reverse_append, List.reverse_cons, List.reverse_nil, List.nil_append, List.singleton_append, numF_cons, ih, List.length_reverse, lowL_length, bitB_nat, Nat.mod_pow_succ]
    have h : (((48 + n / 2 ^ wd % 2 : Nat) : Int) - 48) = ((n / 2 ^ wd % 2 : Nat) : Int) := by omega
    rw [h]
    have h2 : ((n % 2 ^ wd + 2 ^ wd * (n / 2 ^ wd % 2) : Nat) : Int) = ((n % 2 ^ wd : Nat) : Int) + ((2 ^ wd : Nat) : Int) * ((n / 2 ^ wd % 2 : Nat) : Int) := by
      rw [← Int.natCast_mul, ← Int.natCast_add]
    rw [h2, Int.mul_comm, Int.add_comm]
theorem num_code (o : Int) {n wd : Nat} (h : n < 2 ^ wd) : numL o (codeL o n wd) = n := by
  have e := numF_low n wd
  rw [Nat.mod_eq_of_lt h] at e
  unfold numL codeL
  split
  · exact e
  · exact e
theorem numF_inj : ∀ {l m : List UInt8}, isBits l → isBits m → l.length = m.length → numF l = numF m → l = m
  | [], [], _, _, _, _ => rfl
  | [], _ :: _, _, _, h, _ => by simp at h
  | _ :: _, [], _, _, h, _ => by simp at h
  | a :: l, b :: m, ha, hb, hl, he => by
    have hl' : l.length = m.length := by simpa using hl
    have ha2 : isBits l := fun x hx => ha x (List.mem_cons_of_mem _ hx)
    have hb2 : isBits m := fun x hx => hb x (List.mem_cons_of_mem _ hx)
    have h1 := numF_bd ha2
    have h2 := numF_bd hb2
    have a1 := ha a (List.mem_cons_self ..)
    have b1 := hb b (List.mem_cons_self ..)
    rw [numF_cons, numF_cons, hl'] at he
    rw [hl'] at h1
    generalize ((2 ^ m.length : Nat) : Int) = q at *
    have hab : a = b := by
      apply UInt8.toNat_inj.1
      rcases a1 with a1 | a1 <;> rcases b1 with b1 | b1 <;> rw [a1, b1] at he <;> simp at he <;> omega
    subst hab
    rw [numF_inj ha2 hb2 hl' (by omega)]
theorem code_num {o : Int} (ho : o = 0 ∨ o = 1) {l : List UInt8} (hb : isBits l) : codeL o (numL o l).toNat l.length = l := by
  have h1 := numL_bd (o := o) hb
  have hlt : (numL o l).toNat < 2 ^ l.length := by omega
  have h2 := num_code o hlt
  have hcb := isBits_code o (numL o l).toNat l.length
  have hcl := codeL_length o (numL o l).toNat l.length
  rw [Int.toNat_of_nonneg h1.1] at h2
  generalize codeL o (numL o l).toNat l.length = c at *
  unfold numL at h2
  split at h2
  · have := numF_inj hcb.rev hb.rev (by simp [hcl]) h2
    exact List.reverse_inj.1 this
  · exact numF_inj hcb hb hcl h2
theorem chunks_take (P : List UInt8) : ∀ m : Nat, (List.range m).flatMap (fun k => (P.drop (8 * k)).take 8) = P.take (8 * m)
  | 0 => by simp
  | m + 1 => by
    rw [List.range_succ, List.flatMap_append, chunks_take P m]
    simp only [List.flatMap_cons, List.flatMap_nil, List.append_nil]
    rw [show 8 * (m + 1) = 8 * m + 8 by omega, List.take_add]
theorem unpack_pack {o : Int} (ho : o = 0 ∨ o = 1) {l : List UInt8} (hb : isBits l) : unpackL o (packL o l) = padL l := by
  unfold unpackL packL
  rw [List.flatMap_map]
  have hpl := padL_length l
  have hpb := isBits_pad hb
  generalize padL l = P at *
  have e : (List.range (P.length / 8)).flatMap (fun a => codeL o (byteN o P a).toNat 8) = (List.range (P.length / 8)).flatMap (fun k => (P.drop (8 * k)).take 8) := by
    rw [List.flatMap_def, List.flatMap_def]
    congr 1
    refine List.map_congr_left fun k hk => ?_
    rw [List.mem_range] at hk
    have hl8 : ((P.drop (8 * k)).take 8).length = 8 := by rw [List.length_take, List.length_drop]; omega
    have hb8 : isBits ((P.drop (8 * k)).take 8) := (hpb.drop _).take _
    have hbd := numL_bd (o := o) hb8
    rw [hl8] at hbd
    have hu := ub_nat hbd.1 (by have := hbd.2; simpa using this)
    have h2 : (byteN o P k).toNat = (numL o ((P.drop (8 * k)).take 8)).toNat := by unfold byteN; omega
    rw [h2]
    have := code_num ho hb8
    rw [hl8] at this
    exact this
  rw [e, chunks_take, List.take_of_length_le (by omega)]
/-! Codes and their bits. -/
theorem KnD.fol_top {k : KnD} {x : Int} (h : k.Ok) (hf : k.follows x = true) : 0 ≤ x ∧ x ≤ (k.top : Int) := by
  have ht := (KnD.top_bd h).1
  rcases KnD.follows_cases h hf with hc | ⟨hg, hxn, _⟩
  · rw [codeOk_iff] at hc
    have : k.next ≤ k.top + 1 := by unfold KnD.top; split <;> omega
    unfold KnD.next at this; omega
  · unfold KnD.top; rw [if_pos hg]; omega
theorem top_lt (k : KnD) : k.top < 2 ^ k.width := by
  have h1 := pow_needed k.top
  have h2 : needed k.top ≤ k.width := by unfold KnD.width; omega
  have h3 : 2 ^ needed k.top ≤ 2 ^ k.width := Nat.pow_le_pow_right (by decide) h2
  omega
theorem codeAt_code {o : Int} {pre post : List UInt8} {x : Int} {wd : Nat} (h0 : 0 ≤ x) (hx : x.toNat < 2 ^ wd) : codeAt o (pre ++ (codeL o x.toNat wd ++ post)) pre.length wd = x := by
  unfold codeAt
  rw [List.drop_left, List.take_append_of_le_length (by rw [codeL_length]; exact Nat.le_refl _), List.take_of_length_le (by rw [codeL_length]; exact Nat.le_refl _), num_code o hx]
  omega
end Go.Proofs.YtgbakgaegldomaaGreat

/- Walks of the program's bitsNumber and unpackBytes; the memory of a reading. Conditions: as each says. -/
namespace Go.Proofs.YtgbakgaegldomaaGreat
open Go Go.RowKit
def sumW (o : Int) (l : List UInt8) (wd : Nat) : Nat → Int
  | 0 => 0
  | j + 1 => sumW o l wd j + (if (l.getD j 0).toNat = 49 then ((2 ^ plc o j wd : Nat) : Int) else 0)
theorem sumW_step {o : Int} {l : List UInt8} {wd j : Nat} (h : j < l.length) : sumW o l wd (j + 1) = sumW o l wd j + (if (l[j]).toNat = 49 then ((2 ^ plc o j wd : Nat) : Int) else 0) := by
  rw [sumW, List.getD_eq_getElem?_getD, List.getElem?_eq_getElem h]; rfl
theorem sumW_bd (o : Int) (l : List UInt8) {wd : Nat} (hw : wd ≤ 16) : ∀ j, j ≤ wd → 0 ≤ sumW o l wd j ∧ sumW o l wd j ≤ 65536 * j
  | 0, _ => by simp [sumW]
  | j + 1, h => by
    have ih := sumW_bd o l hw j (by omega)
    have h1 := plc_lt (o := o) (i := j) (wd := wd) (by omega)
    have h2 := pow_len (k := plc o j wd) (n := 16) (by omega) (by omega)
    have h3 : (0 : Int) ≤ ((2 ^ plc o j wd : Nat) : Int) := Int.natCast_nonneg _
    have h4 : ((2 ^ plc o j wd : Nat) : Int) ≤ 65536 := by have := Int.ofNat_le.2 h2; exact this
    rw [sumW]
    clear h1 h2
    generalize ((2 ^ plc o j wd : Nat) : Int) = q at *
    split
    · omega
    · omega
theorem sumW_low {l : List UInt8} (hb : isBits l) : ∀ j, j ≤ l.length → sumW 0 l l.length j = numF (l.take j).reverse
  | 0, _ => by simp [sumW, numF]
  | j + 1, h => by
    have hj : j < l.length := h
    rw [sumW_step hj, sumW_low hb j (by omega), List.take_succ_eq_append_getElem hj, List.reverse_append, List.reverse_cons, List.reverse_nil, List.nil_append, List.singleton_append, numF_cons, List.length_reverse, List.length_take, Nat.min_eq_left (by omega)]
    have e : plc 0 j l.length = j := by unfold plc; rw [if_neg (by decide)]
    rw [e]
    rcases hb l[j] (List.getElem_mem hj) with h1 | h1
    · rw [if_neg (by omega), h1]; simp
    · rw [if_pos h1, h1]; simp; omega
theorem sumW_high {l : List UInt8} (hb : isBits l) : ∀ j, j ≤ l.length → sumW 1 l l.length j = numF (l.take j) * ((2 ^ (l.length - j) : Nat) : Int)
  | 0, _ => by simp [sumW, numF]
  | j + 1, h => by
    have hj : j < l.length := h
    rw [sumW_step hj, sumW_high hb j (by omega), List.take_succ_eq_append_getElem hj, numF_snoc]
    have e : plc 1 j l.length = l.length - (j + 1) := by unfold plc; rw [if_pos rfl]; omega
    have e2 : l.length - j = (l.length - (j + 1)) + 1 := by omega
    rw [e, e2, Nat.pow_succ]
    generalize 2 ^ (l.length - (j + 1)) = q
    generalize numF (l.take j) = f
    have e3 : ((q * 2 : Nat) : Int) = (q : Int) * 2 := by simp
    rw [e3]
    rcases hb l[j] (List.getElem_mem hj) with h1 | h1
    · rw [if_neg (by omega), h1, show (2 * f + ((48 : Nat) : Int) - 48) = 2 * f by omega, Int.add_zero, ← Int.mul_assoc, Int.mul_comm (f * (q : Int)) 2, ← Int.mul_assoc]
    · rw [if_pos h1, h1, show (2 * f + ((49 : Nat) : Int) - 48) = 2 * f + 1 by omega, Int.add_mul, Int.one_mul, ← Int.mul_assoc, Int.mul_comm (f * (q : Int)) 2, ← Int.mul_assoc]
theorem sumW_num {o : Int} (ho : o = 0 ∨ o = 1) {l : List UInt8} (hb : isBits l) : sumW o l l.length l.length = numL o l := by
  rcases ho with rfl | rfl
  · rw [sumW_low hb l.length (Nat.le_refl _), List.take_length]; unfold numL; rw [if_pos rfl]
  · rw [sumW_high hb l.length (Nat.le_refl _), List.take_length, Nat.sub_self]; unfold numL; rw [if_neg (by decide)]; simp
def RelBn (o : Int) (l : List UInt8) (wd : Nat) (n i : Value) : Prop := ∃ j : Nat, j ≤ wd ∧ i = .int .i64 j ∧ n = .int .i64 (sumW o l wd j)
set_option maxRecDepth 100000 in
set_option maxHeartbeats 1000000 in
theorem bitsN_any (o : Int) (s : ByteArray) (w : World) (ho : o = 0 ∨ o = 1) (hb : isBits s.data.toList) (hs : s.size ≤ 16) :
    Calls Tryz.prog 103  #[.int .i64 o, .string s] w (fun e w' => e = .returned (.int .i64 (numL o s.data.toList)) ∧ w = w') := by
  have hlen := ba_len s
  have HT : Hid (sumW o s.data.toList s.size s.size = numL o s.data.toList) := by unfold Hid; rw [← sumW_num ho hb, hlen]
  have ho1 := ho
  go_enter Tryz.func103, Tryz.ntmps103
  go_wp2
  go_loop [5, 9] (fun n i => RelBn o s.data.toList s.size n i) (fun _ i => s.size - (intOf i).toNat)
  case atStart => exact ⟨0, Nat.zero_le _, rfl, rfl⟩
  case round =>
    obtain ⟨j, hj, rfl, rfl⟩ := hrel
    have hbd := sumW_bd o s.data.toList (wd := s.size) (by omega) j (by omega)
    have hbd1 := hbd.1
    have hbd2 : sumW o s.data.toList s.size j ≤ 1048576 := by omega
    by_cases hlt : j < s.size
    · have hlt2 : j < s.data.toList.length := by omega
      have HS := Lib.hid (sumW_step (o := o) (wd := s.size) hlt2)
      have hu := u8_bd s[j]
      have e : s[j] = s.data.toList[j] := rfl
      have hpl := plc_lt (o := o) (i := j) (wd := s.size) hlt
      have hpw := pow_len (k := plc o j s.size) (n := 16) (by omega) (by omega)
      have cP : ∀ wx, Calls Tryz.prog 102  #[.int .i64 o, .int .i64 j, .int .i64 s.size] wx (fun e w' => e = .returned (.int .i64 ((2 ^ plc o j s.size : Nat) : Int)) ∧ wx = w') := fun wx => placeI_any o j s.size wx ho1 hlt (by omega)
      have hpw2 : ((2 ^ plc o j s.size : Nat) : Int) ≤ 65536 := by have := Int.ofNat_le.2 hpw; exact this
      have hpw3 : 0 ≤ ((2 ^ plc o j s.size : Nat) : Int) := Int.natCast_nonneg _
      clear hbd hpl hpw
      generalize ((2 ^ plc o j s.size : Nat) : Int) = q at *
      by_cases h1 : (s[j]).toNat = 49
      · have HS2 : Hid (sumW o s.data.toList s.size (j + 1) = sumW o s.data.toList s.size j + q) := by
          unfold Hid; rw [HS.out, if_pos (by rw [← e]; exact h1)]
        have h1' : ((s[j]).toNat : Int) = 49 := by omega
        clear HS e h1 ho ho1
        generalize hf : sumW o s.data.toList s.size j = f at *
        clear hf
        go_wp2_with ((go_at_call 102; (with_reducible refine (cP _).mono ?_); rintro e w' ⟨rfl, rfl⟩))
        go_round
        case rel => exact ⟨j + 1, by omega, by go_num, by rw [HS2.out]⟩
        case measure => simp [intOf]; omega
      · have HS2 : Hid (sumW o s.data.toList s.size (j + 1) = sumW o s.data.toList s.size j) := by
          unfold Hid; rw [HS.out, if_neg (by rw [← e]; exact h1), Int.add_zero]
        have h1' : (((s[j]).toNat : Int) == 49) = false := by simp; omega
        clear HS e h1 ho ho1 cP
        go_wp2
        go_round
        case rel => exact ⟨j + 1, by omega, by go_num, by rw [HS2.out]⟩
        case measure => simp [intOf]; omega
    · have HJ : Hid (j = s.size) := by unfold Hid; omega
      go_wp2
      go_ret
      exact ⟨ret_int (by rw [← HT.out, HJ.out]), rfl⟩
def RelUb (o : Int) (s : List UInt8) (w : World) (out i : Value) (wr : World) : Prop := ∃ n : Nat, i = .int .i64 n ∧ n ≤ s.length ∧ ownU wr w.heap.size out (unpackL o (s.take n)) ∧ Up w wr
theorem mk_u8b (n : Nat) (hn : n ≤ 1048576) (w : World) : (Instr.makeSlice 22 (.int .i64 0) (.int .i64 (n : Int))).run Tryz.prog w = .ok (.slice (some ⟨w.heap.size, 0, none⟩) 0 n) (w.alloc (.cells (madeCells #[.int .u8 0] n) 5)) := by
  obtain ⟨i0, hi0, hz0, hz1, hz2⟩ := info_parts infoByte
  have := run_make (P := Tryz.prog) w 22 5 i0 _ Tryz.underlying22 hi0 hz0 .i64 .i64 0 n (by omega) (by omega) (by rw [hz2]; omega) (by omega)
  rw [hz1] at this
  simpa [Value.cells] using this
theorem own_mk0b {w : World} {base n : Nat} (hb : base ≤ w.heap.size) (hn : n ≤ maxLen) : ownU (w.alloc (.cells (madeCells #[.int .u8 0] n) 5)) base (.slice (some ⟨w.heap.size, 0, none⟩) 0 n) [] :=
  World.ownsRow_made w _ n hb hn (by simp [madeCells])
theorem unpackL_takeb (o : Int) {s : List UInt8} {i : Nat} (h : i < s.length) : unpackL o (s.take (i + 1)) = unpackL o (s.take i) ++ codeL o (s[i]).toNat 8 := by
  rw [List.take_succ_eq_append_getElem h, unpackL_snoc]
set_option maxRecDepth 100000 in
set_option maxHeartbeats 4000000 in
theorem unpackBI_any (o : Int) (s : ByteArray) (w : World) (ho : o = 0 ∨ o = 1) (hs : s.size ≤ 4000) :
    Calls Tryz.prog 52  #[.int .i64 o, .string s] w (Same (.string (bs (unpackL o s.data.toList))) w) := by
  have hlen := ba_len s
  have hmk := mk_u8b (8 * s.size) (by omega)
  have e1 : Hid (((8 * s.size : Nat) : Int) = 8 * (s.size : Int)) := by unfold Hid; omega
  rw [e1.out] at hmk
  have HO := Lib.hid ho
  clear ho
  go_enter Tryz.func52, Tryz.ntmps52
  go_wp2
  go_loopw [5, 13] (fun out i wr => RelUb o s.data.toList w out i wr) (fun _ i _ => s.size - (intOf i).toNat)
  case atStart => exact ⟨0, rfl, Nat.zero_le _, by rw [List.take_zero]; exact own_mk0b (Nat.le_refl _) (by unfold maxLen; omega), by (repeat (first | with_reducible exact Up.refl _ | with_reducible assumption | with_reducible refine Up.set ?_ (by first | exact Nat.le_refl _ | (simp only []; omega) | (simp; omega)) _ | with_reducible refine Up.alloc ?_ _ | with_reducible refine Up.drew ?_ | refine Up.trans ?_ (by with_reducible assumption)))⟩
  case round =>
    clear hmk
    obtain ⟨n, rfl, hle, hown, hup⟩ := hrel
    obtain ⟨a, c, rfl⟩ := ownsRow_shape hown
    have HOW := Lib.hid hown
    have HU := Lib.hid hup
    have hul : (unpackL o (s.data.toList.take n)).length ≤ 32000 := by rw [unpackL_length, List.length_take]; omega
    by_cases hlt : n < s.size
    · have hlt2 : n < s.data.toList.length := by omega
      have hu := u8_bd s[n]
      have HS : Hid (unpackL o (s.data.toList.take (n + 1)) = unpackL o (s.data.toList.take n) ++ codeL o (s[n]).toNat 8) := unpackL_takeb o hlt2
      obtain ⟨cl, hcl⟩ : ∃ cl, cl = codeL o (s[n]).toNat 8 := ⟨_, rfl⟩
      obtain ⟨d, hd⟩ : ∃ d, d = unpackL o (s.data.toList.take n) := ⟨_, rfl⟩
      have cB : Calls Tryz.prog 90  #[.slice a d.length c, .int .i64 o, .int .i64 ((s[n]).toNat : Nat), .int .i64 8] wr (fun e w' => ∃ v', e = .returned v' ∧ ownU w' w.heap.size v' (d ++ cl) ∧ Up w w') := by
        rw [hcl, hd]
        exact bitsI_any w o (s[n]).toNat 8 _ _ wr HO.out (by omega) (by omega) (by omega) HU.out HOW.out
      rw [← hcl, ← hd] at HS
      rw [← hd] at HOW hul ⊢
      clear hcl hd
      clear hown
      go_wp2_with (go_at_call 90; (with_reducible refine cB.mono ?_); rintro e w2 ⟨v2, rfl, ho2, hu2⟩)
      go_roundw
      case rel => exact ⟨n + 1, by go_num, by omega, by rw [HS.out]; exact ho2, hu2⟩
      case measure => simp [intOf]; omega
    · have HT : Hid (s.data.toList.take n = s.data.toList) := List.take_of_length_le (by omega)
      have cv := conv_any hown rfl
      clear hown
      go_wp2
      go_ret
      exact ⟨ret_str (by rw [HT.out]), hup⟩
end Go.Proofs.YtgbakgaegldomaaGreat

