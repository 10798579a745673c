/- Texts joined into one: the walks and laws that the last text leans on. Conditions: as each says. -/
import Derived.Test.YtgbakgaegldomaaGreatMFnWriterKnownLawXT
import Derived.Test.YtgbakgaegldomaaGreatMFnWriterKnownLawXG
import Derived.Test.YtgbakgaegldomaaGreatMFnWriterKnownLawXR
import Derived.Test.YtgbakgaegldomaaGreatMFnWriterKnownLawXQ

set_option linter.unusedVariables false
set_option linter.unusedSimpArgs false
/- Plain: what a reader of the bytes so far has read of the data of a writer (for FnWriterKnown). Conditions: what is known is valid, the data has only literals. -/
namespace Go.Proofs.YtgbakgaegldomaaGreat
open Go Go.RowKit
def folS : KnD → List Int → Prop
  | _, [] => True
  | k, x :: xs => (x = (k.c : Int) ∨ (x ≠ (k.c : Int) ∧ x ≠ (k.c : Int) + 1 ∧ k.follows x = true)) ∧ folS (k.thru x) xs
def datS : KnD → List Int → List UInt8
  | _, [] => []
  | k, x :: xs => (if x = (k.c : Int) then [] else k.any x) ++ datS (k.thru x) xs
theorem folS_app : ∀ (xs ys : List Int) (k : KnD), folS k xs → folS (k.thruN xs) ys → folS k (xs ++ ys) := by
  intro xs
  induction xs with
  | nil => intro ys k _ h; exact h
  | cons x xs ih => intro ys k h1 h2; exact ⟨h1.1, ih ys _ h1.2 h2⟩
theorem datS_app : ∀ (xs ys : List Int) (k : KnD), datS k (xs ++ ys) = datS k xs ++ datS (k.thruN xs) ys := by
  intro xs
  induction xs with
  | nil => intro ys k; rfl
  | cons x xs ih =>
    intro ys k
    show _ ++ datS (k.thru x) (xs ++ ys) = _
    rw [ih ys (k.thru x)]
    exact (List.append_assoc ..).symm
theorem wrC_fol : ∀ (n : Nat) (k : KnD) (d : List UInt8), d.length ≤ n → k.Ok → (∀ b ∈ d, b.toNat < k.c) → folS k (wrC n k d).1 ∧ datS k (wrC n k d).1 ++ (wrC n k d).2.2 = d := by
  intro n
  induction n with
  | zero =>
    intro k d hd _ _
    have : d = [] := List.eq_nil_of_length_eq_zero (by omega)
    subst this
    exact ⟨trivial, rfl⟩
  | succ n ih =>
    intro k d hd hk hl
    by_cases hs : d = [] ∨ k.longest d = d
    · rw [wrC_stop hs]
      exact ⟨trivial, rfl⟩
    · have hd0 : d ≠ [] := fun e => hs (.inl e)
      have hp := KnD.longest_pos (k := k) hd0
      obtain ⟨hf, ha⟩ := KnD.find_any hk hd0 hl
      have hak := KnD.after_ok hk hf
      have hth := KnD.thru_fol hk hf
      have htk := KnD.longest_take (k := k) d
      have hne : k.find (k.longest d) ≠ (k.c : Int) ∧ k.find (k.longest d) ≠ (k.c : Int) + 1 := KnD.fol_ne hk hf
      have hl' : ∀ b ∈ d.drop (k.longest d).length, b.toNat < k.c := fun b hb => hl b (List.mem_of_mem_drop hb)
      have hlen : (d.drop (k.longest d).length).length ≤ n := by rw [List.length_drop]; omega
      have hcat : k.longest d ++ d.drop (k.longest d).length = d := by
        have := List.take_append_drop (k.longest d).length d
        rw [htk] at this
        exact this
      rw [wrC, if_neg hs]
      by_cases hfu : (k.after (k.find (k.longest d))).full = true
      · rw [if_pos hfu]
        obtain ⟨h1, h2⟩ := ih (k.after (k.find (k.longest d))).cleared _ hlen (KnD.cleared_ok hak) hl'
        have hcc : (k.after (k.find (k.longest d))).thru (k.c : Int) = (k.after (k.find (k.longest d))).cleared := thru_clear _
        refine ⟨⟨.inr ⟨hne.1, hne.2, hf⟩, ?_⟩, ?_⟩
        · rw [hth]
          exact ⟨.inl rfl, by rw [hcc]; exact h1⟩
        · show ((if _ then _ else _) ++ datS (k.thru _) ((k.c : Int) :: _)) ++ _ = _
          rw [hth, if_neg hne.1, ha]
          show (k.longest d ++ ((if _ then _ else _) ++ datS ((k.after (k.find (k.longest d))).thru (k.c : Int)) _)) ++ _ = _
          rw [hcc, if_pos (show (k.c : Int) = ((k.after (k.find (k.longest d))).c : Int) from rfl), List.nil_append, List.append_assoc, h2, hcat]
      · rw [if_neg hfu]
        obtain ⟨h1, h2⟩ := ih (k.after (k.find (k.longest d))) _ hlen hak hl'
        refine ⟨⟨.inr ⟨hne.1, hne.2, hf⟩, by rw [hth]; exact h1⟩, ?_⟩
        show ((if _ then _ else _) ++ datS (k.thru _) _) ++ _ = _
        rw [hth, if_neg hne.1, ha, List.append_assoc, h2, hcat]
theorem read_codes (o : Int) (sz ct : Nat) (post : List UInt8) : ∀ (xs : List Int) (k : KnD) (pre : List UInt8) (cs : List Int) (d : List UInt8) (n : Nat), k.Ok → folS k xs → sz + d.length + (datS k xs).length ≤ 2000 → ct + cs.length + xs.length < 3100 → (pre ++ (bitsS o k xs ++ post)).length ≤ pre.length + n →
    ∃ n', (pre ++ (bitsS o k xs ++ post)).length ≤ (pre.length + (bitsS o k xs).length) + n' ∧ readN o (pre ++ (bitsS o k xs ++ post)) sz ct n k pre.length cs d = readN o (pre ++ (bitsS o k xs ++ post)) sz ct n' (k.thruN xs) (pre.length + (bitsS o k xs).length) (cs ++ xs) (d ++ datS k xs) := by
  intro xs
  induction xs with
  | nil =>
    intro k pre cs d n _ _ _ _ hn
    exact ⟨n, by simpa [bitsS] using hn, by simp [bitsS, datS, KnD.thruN]⟩
  | cons x xs ih =>
    intro k pre cs d n hk hf hD hc hn
    obtain ⟨hx, hf'⟩ := hf
    have hwb := KnD.width_bd hk
    have htb := (KnD.top_bd hk).1
    have htl := top_lt k
    have hbl : (bitsS o k (x :: xs)).length = k.width + (bitsS o (k.thru x) xs).length := by
      show (codeL o x.toNat k.width ++ bitsS o (k.thru x) xs).length = _
      rw [List.length_append, codeL_length]
    have hb : pre ++ (bitsS o k (x :: xs) ++ post) = pre ++ (codeL o x.toNat k.width ++ (bitsS o (k.thru x) xs ++ post)) := by
      show pre ++ ((codeL o x.toNat k.width ++ bitsS o (k.thru x) xs) ++ post) = _
      rw [List.append_assoc]
    have hb2 : pre ++ (bitsS o k (x :: xs) ++ post) = (pre ++ codeL o x.toNat k.width) ++ (bitsS o (k.thru x) xs ++ post) := by rw [hb, List.append_assoc]
    have hpl2 : (pre ++ codeL o x.toNat k.width).length = pre.length + k.width := by rw [List.length_append, codeL_length]
    have hlen : ¬ (pre ++ (bitsS o k (x :: xs) ++ post)).length < pre.length + k.width := by
      rw [List.length_append, List.length_append, hbl]; omega
    obtain ⟨n, rfl⟩ : ∃ m, n = m + 1 := ⟨n - 1, by rw [List.length_append, List.length_append, hbl] at hn; omega⟩
    simp only [List.length_cons] at hc
    have hn3 : ((pre ++ codeL o x.toNat k.width) ++ (bitsS o (k.thru x) xs ++ post)).length ≤ (pre ++ codeL o x.toNat k.width).length + n := by
      rw [← hb2, hpl2]; omega
    have hcode : 0 ≤ x → x ≤ (k.top : Int) → codeAt o (pre ++ (bitsS o k (x :: xs) ++ post)) pre.length k.width = x := fun h0 h1 => by
      rw [hb]; exact codeAt_code h0 (by omega)
    have hdS : datS k (x :: xs) = (if x = (k.c : Int) then [] else k.any x) ++ datS (k.thru x) xs := rfl
    rcases hx with hx | ⟨hx1, hx2, hx3⟩
    · have hth : k.thru x = k.cleared := by rw [hx]; exact thru_clear k
      rw [if_pos hx, List.nil_append] at hdS
      have hcx := hcode (by omega) (by omega)
      obtain ⟨n', e1, e2⟩ := ih (k.thru x) (pre ++ codeL o x.toNat k.width) (cs ++ [x]) d n (by rw [hth]; exact KnD.cleared_ok hk) hf' (by rw [hdS] at hD; exact hD) (by simp; omega) hn3
      refine ⟨n', by rw [hb2, hbl]; rw [hpl2] at e1; omega, ?_⟩
      rw [readN_clear hcx hlen hx (by omega), hb2]
      rw [hpl2] at e2
      rw [hdS, hbl, ← Nat.add_assoc, ← hth, e2]
      simp [KnD.thruN]
    · have hth : k.thru x = k.after x := KnD.thru_fol hk hx3
      rw [if_neg hx1] at hdS
      rw [hdS, List.length_append] at hD
      obtain ⟨t1, t2⟩ := KnD.fol_top hk hx3
      have hcx := hcode t1 t2
      obtain ⟨n', e1, e2⟩ := ih (k.thru x) (pre ++ codeL o x.toNat k.width) (cs ++ [x]) (d ++ k.any x) n (by rw [hth]; exact KnD.after_ok hk hx3) hf' (by rw [List.length_append]; omega) (by simp; omega) hn3
      refine ⟨n', by rw [hb2, hbl]; rw [hpl2] at e1; omega, ?_⟩
      rw [readN_word hcx hlen hx2 hx1 hx3 (by omega) (by omega), hb2]
      rw [hpl2] at e2
      rw [hdS, hbl, ← Nat.add_assoc, ← hth, e2]
      simp [KnD.thruN]
structure WkInv (k0 : KnD) (d : List UInt8) (w : WrD) (out : List UInt8) : Prop where
  ok : wrOk w
  set : w.k.set = k0.set
  lits : ∀ b ∈ w.pend, b.toNat < k0.c
  st : (w.beg = false ∧ d = [] ∧ out = [] ∧ w.k = k0) ∨ (w.beg = true ∧ ∃ C P, P.length % 8 = 0 ∧ out = packL k0.set.ord P ∧ P ++ w.bits = bitsS k0.set.ord k0 C ∧ w.k = k0.thruN C ∧
      (∀ e m, (d ++ e).length ≤ m → (∀ b ∈ e, b.toNat < k0.c) → ∃ m', (w.pend ++ e).length ≤ m' ∧ (k0.c : Int) :: greedyN m k0.cleared (d ++ e) = C ++ greedyN m' w.k (w.pend ++ e)) ∧ folS k0 C ∧ datS k0 C ++ w.pend = d)
theorem WkInv.start {k : KnD} (h : k.Ok) (hv : k.vl) : WkInv k [] ⟨k, [], [], false⟩ [] :=
  ⟨⟨h, hv, (fun b hb => absurd hb (List.not_mem_nil)), by simp, (fun b hb => absurd hb (List.not_mem_nil)), by simp, .inl rfl, fun _ => ⟨rfl, rfl⟩⟩, rfl, (fun b hb => absurd hb (List.not_mem_nil)), .inl ⟨rfl, rfl, rfl, rfl⟩⟩
theorem WkInv.wa {k0 : KnD} {d : List UInt8} {w : WrD} {out : List UInt8} (h : WkInv k0 d w out) : WaInv k0 d w out := by
  obtain ⟨hok, hset, hlp, hst⟩ := h
  refine ⟨hok.1, hset, hlp, hok.2.2.2.2.2.2.1, ?_⟩
  rcases hst with ⟨b1, b2, b3, b5⟩ | ⟨b1, C, P, p1, p2, p3, p4, p5, p6, p7⟩
  · obtain ⟨b6, b7⟩ := hok.2.2.2.2.2.2.2 b1
    exact .inl ⟨b1, b2, b6, b7, b5, b3⟩
  · exact .inr ⟨b1, C, P, p1, p2, p3, p4, p5⟩
theorem WkInv.next {k0 : KnD} {d x : List UInt8} {w : WrD} {out : List UInt8} (hk0 : k0.Ok) (h : WkInv k0 d w out) (hx : ∀ b ∈ x, b.toNat < k0.c) (h2 : (w.pend ++ x).length ≤ 2000) : WkInv k0 (d ++ x) (w.write x).1 (out ++ (w.write x).2) := by
  by_cases hx0 : x = []
  · subst hx0
    unfold WrD.write
    rw [if_pos rfl, List.append_nil, List.append_nil]
    exact h
  obtain ⟨hok, hset, hlp, hst⟩ := h
  have hc : w.k.c = k0.c := by unfold KnD.c; rw [hset]
  obtain ⟨g1, g2, g3, p, g4⟩ := wrOk_write hok (fun b hb => by rw [hc]; exact hx b hb) h2
  have hlx : ∀ b ∈ w.pend ++ x, b.toNat < k0.c := fun b hb => (List.mem_append.1 hb).elim (hlp b) (hx b)
  refine ⟨g1, g2.trans hset, fun b hb => hlx b (by rw [g4]; exact List.mem_append_right _ hb), .inr ⟨(g3 hx0).1, ?_⟩⟩
  have hT : ((w.all x).take ((w.all x).length / 8 * 8)).length % 8 = 0 := by rw [List.length_take]; omega
  have hB := List.take_append_drop ((w.all x).length / 8 * 8) (w.all x)
  unfold WrD.write
  rw [if_neg hx0]
  rcases hst with ⟨b1, b2, b3, b5⟩ | ⟨b1, C, P, p1, p2, p3, p4, p5, p6, p7⟩
  · subst b2; subst b3
    obtain ⟨b6, b7⟩ := hok.2.2.2.2.2.2.2 b1
    subst b5
    have ho : w.open = (codeL w.k.set.ord w.k.c w.k.width, w.k.cleared) := by unfold WrD.open; rw [b1, b7]; simp
    have hcd : w.codes x = wrC x.length w.k.cleared x := by unfold WrD.codes; rw [ho, b6]; rfl
    have hth := wrC_thru x.length w.k.cleared x (KnD.cleared_ok hk0) hx
    obtain ⟨f1, f2⟩ := wrC_fol x.length w.k.cleared x (Nat.le_refl _) (KnD.cleared_ok hk0) hx
    have hall : w.all x = bitsS w.k.set.ord w.k ((w.k.c : Int) :: (wrC x.length w.k.cleared x).1) := by
      unfold WrD.all
      rw [hcd, ho]
      show codeL w.k.set.ord w.k.c w.k.width ++ _ = codeL w.k.set.ord (w.k.c : Int).toNat w.k.width ++ bitsS w.k.set.ord (w.k.thru (w.k.c : Int)) _
      rw [thru_clear]
      rfl
    refine ⟨(w.k.c : Int) :: (wrC x.length w.k.cleared x).1, _, hT, rfl, by rw [hB, hall], ?_, fun e m hm he => ?_, ⟨.inl rfl, by rw [thru_clear]; exact f1⟩, ?_⟩
    · rw [hcd, hth]
      show _ = (w.k.thru (w.k.c : Int)).thruN _
      rw [thru_clear]
    · rw [hcd]
      obtain ⟨m', r1, r2⟩ := wrC_greedy x.length w.k.cleared x e m (Nat.le_refl _) hm (KnD.cleared_ok hk0) hx
      exact ⟨m', r1, by
        show (w.k.c : Int) :: greedyN m w.k.cleared (x ++ e) = _
        rw [r2]; rfl⟩
    · show ((if _ then _ else _) ++ datS (w.k.thru (w.k.c : Int)) _) ++ (w.codes x).2.2 = _
      rw [if_pos rfl, thru_clear, hcd, List.nil_append, List.nil_append]
      exact f2
  · have ho : w.open = (w.bits, w.k) := by unfold WrD.open; rw [b1]; rfl
    have hcd : w.codes x = wrC (w.pend ++ x).length w.k (w.pend ++ x) := by unfold WrD.codes; rw [ho]
    have hlw : ∀ b ∈ w.pend ++ x, b.toNat < w.k.c := fun b hb => by rw [hc]; exact hlx b hb
    have hth := wrC_thru (w.pend ++ x).length w.k (w.pend ++ x) hok.1 hlw
    obtain ⟨f1, f2⟩ := wrC_fol (w.pend ++ x).length w.k (w.pend ++ x) (Nat.le_refl _) hok.1 hlw
    have hall : P ++ w.all x = bitsS k0.set.ord k0 (C ++ (wrC (w.pend ++ x).length w.k (w.pend ++ x)).1) := by
      unfold WrD.all
      rw [hcd, ho, hset, bitsS_app, ← p3, ← p4, List.append_assoc]
    refine ⟨C ++ (wrC (w.pend ++ x).length w.k (w.pend ++ x)).1, P ++ (w.all x).take ((w.all x).length / 8 * 8), ?_, ?_, ?_, ?_, fun e m hm he => ?_, ?_, ?_⟩
    · rw [List.length_append]; omega
    · rw [p2, hset, packL_append _ p1]
    · rw [List.append_assoc, hB, hall]
    · rw [hcd, hth, thruN_app, ← p4]
    · rw [hcd]
      have hxe : ∀ b ∈ x ++ e, b.toNat < k0.c := fun b hb => (List.mem_append.1 hb).elim (hx b) (he b)
      obtain ⟨m1, r1, r2⟩ := p5 (x ++ e) m (by rw [← List.append_assoc]; exact hm) hxe
      rw [show w.pend ++ (x ++ e) = (w.pend ++ x) ++ e from (List.append_assoc ..).symm] at r1 r2
      obtain ⟨m', s1, s2⟩ := wrC_greedy (w.pend ++ x).length w.k (w.pend ++ x) e m1 (Nat.le_refl _) r1 hok.1 hlw
      exact ⟨m', s1, by rw [List.append_assoc d x e, r2, s2]; exact (List.append_assoc ..).symm⟩
    · exact folS_app _ _ _ p6 (by rw [← p4]; exact f1)
    · rw [datS_app, ← p4, hcd, List.append_assoc, f2, ← List.append_assoc, p7]
theorem readN_data {o : Int} {bits : List UInt8} {sz ct n : Nat} {k : KnD} {p : Nat} {cs : List Int} {d : List UInt8} : ∃ X, (readN o bits sz ct n k p cs d).data = d ++ X := by
  have h := readN_acc o bits sz ct cs d n k p [] []
  rw [List.append_nil, List.append_nil] at h
  rw [h]
  exact ⟨_, rfl⟩
theorem WkInv.read {k0 : KnD} {d : List UInt8} {w : WrD} {out : List UInt8} (hk0 : k0.Ok) (hv0 : k0.vl) (h : WkInv k0 d w out) (hl : ∀ b ∈ d, b.toNat < k0.c) (hd : d.length ≤ 2000) :
    out.length ≤ 4000 ∧ (readS k0 out).fin = 1 ∧ (readS k0 out).data.length + w.pend.length ≤ d.length ∧ d.take (readS k0 out).data.length = (readS k0 out).data ∧
    ((readS k0 (out ++ packL k0.set.ord w.bits)).fin = 1 → d.length ≤ (readS k0 (out ++ packL k0.set.ord w.bits)).data.length + w.pend.length) := by
  have ho := (setOk_bd hk0.set).1
  obtain ⟨hok, hset, hlp, hst⟩ := h
  rcases hst with ⟨b1, rfl, rfl, b5⟩ | ⟨b1, C, P, p1, p2, p3, p4, p5, p6, p7⟩
  · obtain ⟨b6, b7⟩ := hok.2.2.2.2.2.2.2 b1
    rw [b6, b7]
    exact ⟨by simp, rfl, by show ([] : List UInt8).length + 0 ≤ 0; simp, rfl, fun _ => by simp⟩
  · obtain ⟨m1, -, g2⟩ := p5 [] d.length (by simp) (fun b hb => absurd hb (List.not_mem_nil))
    rw [List.append_nil] at g2
    have ht := greedy_tight hk0 hl hd
    have hgl : (greedy k0 d).length = C.length + (greedyN m1 w.k (w.pend ++ [])).length := by
      have : greedy k0 d = (k0.c : Int) :: greedyN d.length k0.cleared d := rfl
      rw [this, g2, List.length_append]
    have hCl : C.length ≤ 3002 := by omega
    have hdat : (datS k0 C).length + w.pend.length = d.length := by rw [← p7, List.length_append]
    have hPb : isBits P := fun b hb => isBits_codes k0.set.ord C k0 b (by rw [← p3]; exact List.mem_append_left _ hb)
    have hwb : isBits w.bits := hok.2.2.2.2.1
    have hPl : P.length ≤ 31000 := by
      have hbl : ∀ (xs : List Int) (k : KnD), k.Ok → folS k xs → (bitsS k0.set.ord k xs).length ≤ 10 * xs.length := by
        intro xs
        induction xs with
        | nil => intro k _ _; simp [bitsS]
        | cons x xs ih =>
          intro k hk hf
          have hw := KnD.width_bd hk
          show (codeL _ _ k.width ++ bitsS _ (k.thru x) xs).length ≤ _
          rw [List.length_append, codeL_length, List.length_cons]
          have := ih (k.thru x) (by
            rcases hf.1 with hx | ⟨hx1, hx2, hx3⟩
            · rw [hx, thru_clear]; exact KnD.cleared_ok hk
            · rw [KnD.thru_fol hk hx3]; exact KnD.after_ok hk hx3) hf.2
          omega
      have := hbl C k0 hk0 p6
      rw [← p3, List.length_append] at this
      omega
    have hol : out.length ≤ 4000 := by rw [p2, packL_length]; omega
    have hpadP : padL P = P := by unfold padL; rw [p1]; simp
    have hunp : unpackL k0.set.ord out = P := by rw [p2, unpack_pack ho hPb, hpadP]
    have hPo : P.length = 8 * out.length := by rw [← hunp, unpackL_length]
    -- reading P and the bits that are kept
    obtain ⟨n', e1, e2⟩ := read_codes k0.set.ord 0 0 [] C k0 [] [] [] (P ++ w.bits).length hk0 p6 (by simp; omega) (by simp; omega) (by rw [← p3]; simp)
    rw [← p3] at e1 e2
    simp only [List.nil_append, List.append_nil, List.length_nil, Nat.zero_add] at e1 e2
    have hshort : readN k0.set.ord (P ++ w.bits) 0 0 n' (k0.thruN C) (P ++ w.bits).length C (datS k0 C) = ⟨k0.thruN C, C, datS k0 C, 1, (P ++ w.bits).length⟩ := by
      have hw := KnD.width_bd hok.1
      rw [p4] at hw
      exact readN_short (by omega)
    rw [hshort] at e2
    have hM := readN_more k0.set.ord P w.bits 0 0 (8 * out.length) k0 0 [] [] (P ++ w.bits).length hk0 (by omega) (by omega)
    have eS : readN k0.set.ord P 0 0 (8 * out.length) k0 0 [] [] = readS k0 out := by unfold readS; rw [hunp]
    rw [eS, e2] at hM
    have hfin : (readS k0 out).fin = 1 := by
      cases Decidable.em ((readS k0 out).fin = 1) with
      | inl h => exact h
      | inr h => rw [← hM.1 h]
    obtain ⟨m', -, f2⟩ := hM.2 hfin
    obtain ⟨X, hX⟩ := readN_data (o := k0.set.ord) (bits := P ++ w.bits) (sz := 0) (ct := 0) (n := m') (k := (readS k0 out).k) (p := (readS k0 out).pos) (cs := (readS k0 out).codes) (d := (readS k0 out).data)
    rw [← f2] at hX
    have hX' : datS k0 C = (readS k0 out).data ++ X := hX
    have hXl : (datS k0 C).length = (readS k0 out).data.length + X.length := by rw [hX', List.length_append]
    refine ⟨hol, hfin, by omega, ?_, fun hf2 => ?_⟩
    · rw [← p7, hX', List.append_assoc, List.take_left]
    · have hu2 : unpackL k0.set.ord (out ++ packL k0.set.ord w.bits) = P ++ padL w.bits := by
        have : unpackL k0.set.ord (out ++ packL k0.set.ord w.bits) = unpackL k0.set.ord out ++ unpackL k0.set.ord (packL k0.set.ord w.bits) := by simp [unpackL]
        rw [this, hunp, unpack_pack ho hwb]
      obtain ⟨Z, hZ⟩ : ∃ Z, padL w.bits = w.bits ++ Z := ⟨_, rfl⟩
      have hlen2 : (P ++ (w.bits ++ Z)).length = 8 * (out ++ packL k0.set.ord w.bits).length := by rw [← hZ, ← hu2, unpackL_length]
      obtain ⟨n2, -, e4⟩ := read_codes k0.set.ord 0 0 Z C k0 [] [] [] (8 * (out ++ packL k0.set.ord w.bits).length) hk0 p6 (by simp; omega) (by simp; omega) (by rw [← p3, ← hlen2]; simp)
      rw [← p3] at e4
      simp only [List.nil_append, List.length_nil, Nat.zero_add] at e4
      have eS2 : readS k0 (out ++ packL k0.set.ord w.bits) = readN k0.set.ord (P ++ w.bits ++ Z) 0 0 (8 * (out ++ packL k0.set.ord w.bits).length) k0 0 [] [] := by unfold readS; rw [hu2, hZ, List.append_assoc]
      obtain ⟨Y, hY⟩ := readN_data (o := k0.set.ord) (bits := P ++ w.bits ++ Z) (sz := 0) (ct := 0) (n := n2) (k := k0.thruN C) (p := (P ++ w.bits).length) (cs := C) (d := datS k0 C)
      rw [eS2, e4, hY, List.length_append]
      omega
end Go.Proofs.YtgbakgaegldomaaGreat

