/- Plain: reading the stream of data gives the data again. Conditions: what is known is valid, the data fits. -/
import Derived.Test.YtgbakgaegldomaaGreatRn
import Derived.Test.YtgbakgaegldomaaGreatGlen
namespace Go.Proofs.YtgbakgaegldomaaGreat
set_option linter.unusedVariables false
set_option linter.unusedSimpArgs false
open Go Go.RowKit

/-! Bits and numbers. -/
theorem numF_fold (l : List UInt8) : ∀ a : Int, l.foldl (fun (n : Int) b => 2 * n + (b.toNat : Int) - 48) a = a * ((2 ^ l.length : Nat) : Int) + numF l := by
  induction l with
  | nil => intro a; simp [numF]
  | cons b l ih =>
    intro a
    have h0 : numF (b :: l) = l.foldl (fun (n : Int) b => 2 * n + (b.toNat : Int) - 48) (2 * 0 + (b.toNat : Int) - 48) := rfl
    rw [h0, List.foldl_cons, ih, ih, List.length_cons, Nat.pow_succ]
    simp only [Int.natCast_mul]
    generalize ((2 ^ l.length : Nat) : Int) = q
    have e : ((2 : Nat) : Int) = 2 := rfl
    rw [e, show (2 * a + (b.toNat : Int) - 48) * q = 2 * a * q + ((b.toNat : Int) - 48) * q by rw [← Int.add_mul]; congr 1; omega, show a * (q * 2) = 2 * a * q by rw [Int.mul_comm q 2, ← Int.mul_assoc, Int.mul_comm a 2], show (2 * 0 + (b.toNat : Int) - 48) * q = ((b.toNat : Int) - 48) * q by rw [show (2 * 0 + (b.toNat : Int) - 48) = (b.toNat : Int) - 48 by omega]]
    omega
theorem numF_cons (b : UInt8) (l : List UInt8) : numF (b :: l) = ((b.toNat : Int) - 48) * ((2 ^ l.length : Nat) : Int) + numF l := by
  have h0 : numF (b :: l) = l.foldl (fun (n : Int) b => 2 * n + (b.toNat : Int) - 48) (2 * 0 + (b.toNat : Int) - 48) := rfl
  rw [h0, numF_fold, show (2 * 0 + (b.toNat : Int) - 48) = (b.toNat : Int) - 48 by omega]
theorem numF_low (n wd : Nat) : numF (lowL n wd).reverse = ((n % 2 ^ wd : Nat) : Int) := by
  induction wd with
  | zero => simp [lowL, numF, Nat.mod_one]
  | succ wd ih =>
    rw [lowL_succ, List.reverse_append, List.reverse_cons, List.reverse_nil, List.nil_append, List.singleton_append, numF_cons, ih, List.length_reverse, lowL_length, bitB_nat, Nat.mod_pow_succ]
    have h : (((48 + n / 2 ^ wd % 2 : Nat) : Int) - 48) = ((n / 2 ^ wd % 2 : Nat) : Int) := by omega
    rw [h]
    have h2 : ((n % 2 ^ wd + 2 ^ wd * (n / 2 ^ wd % 2) : Nat) : Int) = ((n % 2 ^ wd : Nat) : Int) + ((2 ^ wd : Nat) : Int) * ((n / 2 ^ wd % 2 : Nat) : Int) := by
      rw [← Int.natCast_mul, ← Int.natCast_add]
    rw [h2, Int.mul_comm, Int.add_comm]
theorem num_code (o : Int) {n wd : Nat} (h : n < 2 ^ wd) : numL o (codeL o n wd) = n := by
  have e := numF_low n wd
  rw [Nat.mod_eq_of_lt h] at e
  unfold numL codeL
  split
  · exact e
  · exact e
theorem numF_inj : ∀ {l m : List UInt8}, isBits l → isBits m → l.length = m.length → numF l = numF m → l = m
  | [], [], _, _, _, _ => rfl
  | [], _ :: _, _, _, h, _ => by simp at h
  | _ :: _, [], _, _, h, _ => by simp at h
  | a :: l, b :: m, ha, hb, hl, he => by
    have hl' : l.length = m.length := by simpa using hl
    have ha2 : isBits l := fun x hx => ha x (List.mem_cons_of_mem _ hx)
    have hb2 : isBits m := fun x hx => hb x (List.mem_cons_of_mem _ hx)
    have h1 := numF_bd ha2
    have h2 := numF_bd hb2
    have a1 := ha a (List.mem_cons_self ..)
    have b1 := hb b (List.mem_cons_self ..)
    rw [numF_cons, numF_cons, hl'] at he
    rw [hl'] at h1
    generalize ((2 ^ m.length : Nat) : Int) = q at *
    have hab : a = b := by
      apply UInt8.toNat_inj.1
      rcases a1 with a1 | a1 <;> rcases b1 with b1 | b1 <;> rw [a1, b1] at he <;> simp at he <;> omega
    subst hab
    rw [numF_inj ha2 hb2 hl' (by omega)]
theorem code_num {o : Int} (ho : o = 0 ∨ o = 1) {l : List UInt8} (hb : isBits l) : codeL o (numL o l).toNat l.length = l := by
  have h1 := numL_bd (o := o) hb
  have hlt : (numL o l).toNat < 2 ^ l.length := by omega
  have h2 := num_code o hlt
  have hcb := isBits_code o (numL o l).toNat l.length
  have hcl := codeL_length o (numL o l).toNat l.length
  rw [Int.toNat_of_nonneg h1.1] at h2
  generalize codeL o (numL o l).toNat l.length = c at *
  unfold numL at h2
  split at h2
  · have := numF_inj hcb.rev hb.rev (by simp [hcl]) h2
    exact List.reverse_inj.1 this
  · exact numF_inj hcb hb hcl h2
theorem chunks_take (P : List UInt8) : ∀ m : Nat, (List.range m).flatMap (fun k => (P.drop (8 * k)).take 8) = P.take (8 * m)
  | 0 => by simp
  | m + 1 => by
    rw [List.range_succ, List.flatMap_append, chunks_take P m]
    simp only [List.flatMap_cons, List.flatMap_nil, List.append_nil]
    rw [show 8 * (m + 1) = 8 * m + 8 by omega, List.take_add]
theorem unpack_pack {o : Int} (ho : o = 0 ∨ o = 1) {l : List UInt8} (hb : isBits l) : unpackL o (packL o l) = padL l := by
  unfold unpackL packL
  rw [List.flatMap_map]
  have hpl := padL_length l
  have hpb := isBits_pad hb
  generalize padL l = P at *
  have e : (List.range (P.length / 8)).flatMap (fun a => codeL o (byteN o P a).toNat 8) = (List.range (P.length / 8)).flatMap (fun k => (P.drop (8 * k)).take 8) := by
    rw [List.flatMap_def, List.flatMap_def]
    congr 1
    refine List.map_congr_left fun k hk => ?_
    rw [List.mem_range] at hk
    have hl8 : ((P.drop (8 * k)).take 8).length = 8 := by rw [List.length_take, List.length_drop]; omega
    have hb8 : isBits ((P.drop (8 * k)).take 8) := (hpb.drop _).take _
    have hbd := numL_bd (o := o) hb8
    rw [hl8] at hbd
    have hu := ub_nat hbd.1 (by have := hbd.2; simpa using this)
    have h2 : (byteN o P k).toNat = (numL o ((P.drop (8 * k)).take 8)).toNat := by unfold byteN; omega
    rw [h2]
    have := code_num ho hb8
    rw [hl8] at this
    exact this
  rw [e, chunks_take, List.take_of_length_le (by omega)]

/-! Codes and their bits. -/
theorem KnD.fol_top {k : KnD} {x : Int} (h : k.Ok) (hf : k.follows x = true) : 0 ≤ x ∧ x ≤ (k.top : Int) := by
  have ht := (KnD.top_bd h).1
  rcases KnD.follows_cases h hf with hc | ⟨hg, hxn, _⟩
  · rw [codeOk_iff] at hc
    have : k.next ≤ k.top + 1 := by unfold KnD.top; split <;> omega
    unfold KnD.next at this; omega
  · unfold KnD.top; rw [if_pos hg]; omega
theorem top_lt (k : KnD) : k.top < 2 ^ k.width := by
  have h1 := pow_needed k.top
  have h2 : needed k.top ≤ k.width := by unfold KnD.width; omega
  have h3 : 2 ^ needed k.top ≤ 2 ^ k.width := Nat.pow_le_pow_right (by decide) h2
  omega
theorem codeAt_code {o : Int} {pre post : List UInt8} {x : Int} {wd : Nat} (h0 : 0 ≤ x) (hx : x.toNat < 2 ^ wd) : codeAt o (pre ++ (codeL o x.toNat wd ++ post)) pre.length wd = x := by
  unfold codeAt
  rw [List.drop_left, List.take_append_of_le_length (by rw [codeL_length]; exact Nat.le_refl _), List.take_of_length_le (by rw [codeL_length]; exact Nat.le_refl _), num_code o hx]
  omega
/-- Reading the bits of codes that can follow, the last one being the end code. -/
theorem read_pack (o : Int) (sz ct : Nat) (post : List UInt8) : ∀ (xs : List Int) (k : KnD) (pre : List UInt8) (cs : List Int) (d : List UInt8) (ws W : List Int) (D : List UInt8) (n : Nat), k.Ok → walkN k xs ws d = ⟨ws ++ W, D, true⟩ → W.length = xs.length → (∃ ys, xs = ys ++ [(k.c : Int) + 1]) →
    sz + D.length ≤ 2000 → ct + cs.length + xs.length ≤ 3100 → (pre ++ (packC o xs W ++ post)).length ≤ pre.length + n → xs.length ≤ n →
    ∃ k', readN o (pre ++ (packC o xs W ++ post)) sz ct n k pre.length cs d = ⟨k', cs ++ xs, D, 0, pre.length + (packC o xs W).length⟩ := by
  intro xs
  induction xs with
  | nil => intro k pre cs d ws W D n _ _ _ ⟨ys, h⟩; simp at h
  | cons x xs ih =>
    intro k pre cs d ws W D n hk hT hW hend hD hc hn hn2
    obtain ⟨w0, W', rfl⟩ : ∃ w0 W', W = w0 :: W' := by
      cases W with
      | nil => simp at hW
      | cons a l => exact ⟨a, l, rfl⟩
    have hW' : W'.length = xs.length := by simpa using hW
    obtain ⟨n, rfl⟩ : ∃ m, n = m + 1 := ⟨n - 1, by simp only [List.length_cons] at hn2; omega⟩
    simp only [List.length_cons] at hn2 hc
    -- the width of the first code
    have hw0 : w0 = (k.width : Int) := by
      have hpre : ∀ (zs : List Int) (kk : KnD) (vs : List Int) (dd : List UInt8), ∃ V, (walkN kk zs vs dd).ws = vs ++ V := by
        intro zs
        induction zs with
        | nil => intro kk vs dd; exact ⟨[], by simp [walkN]⟩
        | cons z zs ihz =>
          intro kk vs dd
          rw [walkN]
          split
          · exact ⟨_, rfl⟩
          · split
            · obtain ⟨V, hV⟩ := ihz kk.cleared (vs ++ [(kk.width : Int)]) dd
              exact ⟨(kk.width : Int) :: V, by rw [hV]; simp⟩
            · split
              · exact ⟨_, rfl⟩
              · obtain ⟨V, hV⟩ := ihz (kk.after z) (vs ++ [(kk.width : Int)]) (dd ++ kk.any z)
                exact ⟨(kk.width : Int) :: V, by rw [hV]; simp⟩
      have hws : (walkN k (x :: xs) ws d).ws = ws ++ w0 :: W' := by rw [hT]
      rcases walkN_ok hT rfl with ⟨h1, h2, h3⟩ | ⟨h1, h2⟩ | ⟨h1, h2, h3, h4, h5⟩
      · have := congrArg WkR.ws h3
        have h9 : w0 = (k.width : Int) ∧ W' = [] := by simpa using this
        exact h9.1
      · obtain ⟨V, hV⟩ := hpre xs k.cleared (ws ++ [(k.width : Int)]) d
        rw [h2] at hV
        have : ws ++ w0 :: W' = ws ++ (k.width : Int) :: V := by simpa using hV
        exact (List.cons.inj (List.append_cancel_left this)).1
      · obtain ⟨V, hV⟩ := hpre xs (k.after x) (ws ++ [(k.width : Int)]) (d ++ k.any x)
        rw [h4] at hV
        have : ws ++ w0 :: W' = ws ++ (k.width : Int) :: V := by simpa using hV
        exact (List.cons.inj (List.append_cancel_left this)).1
    subst hw0
    have hb : pre ++ (packC o (x :: xs) ((k.width : Int) :: W') ++ post) = pre ++ (codeL o x.toNat k.width ++ (packC o xs W' ++ post)) := by
      simp [packC]
    have hb2 : pre ++ (packC o (x :: xs) ((k.width : Int) :: W') ++ post) = (pre ++ codeL o x.toNat k.width) ++ (packC o xs W' ++ post) := by
      simp [packC]
    have hpl : (packC o (x :: xs) ((k.width : Int) :: W')).length = k.width + (packC o xs W').length := by
      simp [packC, codeL_length]
    have hlen : ¬ (pre ++ (packC o (x :: xs) ((k.width : Int) :: W') ++ post)).length < pre.length + k.width := by
      rw [List.length_append, List.length_append, hpl]; omega
    have hpl2 : (pre ++ codeL o x.toNat k.width).length = pre.length + k.width := by rw [List.length_append, codeL_length]
    have hwb := KnD.width_bd hk
    have htb := (KnD.top_bd hk).1
    have htl := top_lt k
    have hn3 : ((pre ++ codeL o x.toNat k.width) ++ (packC o xs W' ++ post)).length ≤ (pre ++ codeL o x.toNat k.width).length + n := by
      rw [← hb2, hpl2]; omega
    have hcode : 0 ≤ x → x ≤ (k.top : Int) → codeAt o (pre ++ (packC o (x :: xs) ((k.width : Int) :: W') ++ post)) pre.length k.width = x := fun h0 h1 => by
      rw [hb]; exact codeAt_code h0 (by omega)
    have hend2 : xs ≠ [] → ∃ ys, xs = ys ++ [(k.c : Int) + 1] := fun hne => by
      obtain ⟨ys, hys⟩ := hend
      cases ys with
      | nil => simp at hys; exact absurd hys.2 hne
      | cons y ys => simp at hys; exact ⟨ys, hys.2⟩
    rcases walkN_ok hT rfl with ⟨h1, h2, h3⟩ | ⟨h1, h2⟩ | ⟨h1, h2, h3, h4, h5⟩
    · subst h2
      have hx := hcode (by omega) (by omega)
      have hDe : D = d := congrArg WkR.data h3
      have hWn : W' = [] := List.length_eq_zero_iff.1 (by simpa using hW')
      subst hWn
      refine ⟨k, ?_⟩
      rw [readN_end hx hlen h1, hpl, hDe]
      simp [packC]
    · have hne : xs ≠ [] := fun e => by
        obtain ⟨ys, hys⟩ := hend
        rw [e] at hys
        cases ys with
        | nil => simp at hys; omega
        | cons y ys => simp at hys
      have hx := hcode (by omega) (by omega)
      have hxp : 1 ≤ xs.length := List.length_pos_iff.2 hne
      rw [readN_clear hx hlen h1 (by omega), hb2]
      have h2' : walkN k.cleared xs (ws ++ [(k.width : Int)]) d = ⟨(ws ++ [(k.width : Int)]) ++ W', D, true⟩ := by rw [h2]; simp
      obtain ⟨k', hk'⟩ := ih k.cleared (pre ++ codeL o x.toNat k.width) (cs ++ [x]) d (ws ++ [(k.width : Int)]) W' D n (KnD.cleared_ok hk) h2' hW' (hend2 hne) hD (by simp; omega) hn3 (by omega)
      rw [hpl2] at hk'
      refine ⟨k', ?_⟩
      rw [hk', hpl]
      simp [Nat.add_assoc]
    · have hne : xs ≠ [] := fun e => by
        obtain ⟨ys, hys⟩ := hend
        rw [e] at hys
        cases ys with
        | nil => simp at hys; exact h1 hys
        | cons y ys => simp at hys
      obtain ⟨t1, t2⟩ := KnD.fol_top hk h3
      have hx := hcode t1 t2
      have hxp : 1 ≤ xs.length := List.length_pos_iff.2 hne
      have h5' : d.length + (k.any x).length ≤ D.length := h5
      rw [readN_word hx hlen h1 h2 h3 (by omega) (by omega), hb2]
      have h4' : walkN (k.after x) xs (ws ++ [(k.width : Int)]) (d ++ k.any x) = ⟨(ws ++ [(k.width : Int)]) ++ W', D, true⟩ := by rw [h4]; simp
      obtain ⟨k', hk'⟩ := ih (k.after x) (pre ++ codeL o x.toNat k.width) (cs ++ [x]) (d ++ k.any x) (ws ++ [(k.width : Int)]) W' D n (KnD.after_ok hk h3) h4' hW' (hend2 hne) hD (by simp; omega) hn3 (by omega)
      rw [hpl2] at hk'
      refine ⟨k', ?_⟩
      rw [hk', hpl]
      simp [Nat.add_assoc]

theorem greedyN_end : ∀ (n : Nat) (k : KnD) (d : List UInt8), ∃ ys, greedyN n k d = ys ++ [(k.c : Int) + 1]
  | 0, k, d => ⟨[], rfl⟩
  | n + 1, k, d => by
    rw [greedyN]
    split
    · exact ⟨[], rfl⟩
    · split
      · obtain ⟨ys, h⟩ := greedyN_end n (k.after (k.find (k.longest d))).cleared (d.drop (k.longest d).length)
        exact ⟨_ :: _ :: ys, by rw [h]; rfl⟩
      · obtain ⟨ys, h⟩ := greedyN_end n (k.after (k.find (k.longest d))) (d.drop (k.longest d).length)
        exact ⟨_ :: ys, by rw [h]; rfl⟩
/-- The codes of data, their widths, their bits. -/
theorem read_greedy {k : KnD} {d : List UInt8} (hk : k.Ok) (hl : ∀ b ∈ d, b.toNat < k.c) (hd : d.length ≤ 2000) :
    ∃ k', readS k (compL k d) = ⟨k', greedy k d, d, 0, (packC k.set.ord (greedy k d) (walkN k (greedy k d) [] []).ws).length⟩ := by
  obtain ⟨g1, g2, g3, g4, g5⟩ := walk_greedy hk hl hd
  have g6 := greedy_tight hk hl hd
  have ho := (setOk_bd hk.set).1
  have hib := isBits_packC k.set.ord (greedy k d) (walkN k (greedy k d) [] []).ws
  have hun := unpack_pack ho hib
  have hplen := packL_length k.set.ord (packC k.set.ord (greedy k d) (walkN k (greedy k d) [] []).ws)
  unfold readS compL
  rw [hun]
  obtain ⟨ys, hys⟩ := greedyN_end d.length k.cleared d
  have hgl : (greedy k d).length ≤ (packC k.set.ord (greedy k d) (walkN k (greedy k d) [] []).ws).length := by
    have : ∀ (xs ws : List Int), xs.length = ws.length → (∀ w ∈ ws, 1 ≤ w) → xs.length ≤ (packC k.set.ord xs ws).length := by
      intro xs
      induction xs with
      | nil => intro ws _ _; simp
      | cons x xs ih =>
        intro ws h1 h2
        cases ws with
        | nil => simp at h1
        | cons w ws =>
          have h3 := ih ws (by simpa using h1) fun v hv => h2 v (List.mem_cons_of_mem _ hv)
          have h4 := h2 w (List.mem_cons_self ..)
          simp only [packC, List.length_append, codeL_length, List.length_cons]
          omega
    exact this _ _ g1.symm fun w hw => (g4 w hw).1
  have hT : walkN k (greedy k d) [] [] = ⟨[] ++ (walkN k (greedy k d) [] []).ws, d, true⟩ := by
    generalize walkN k (greedy k d) [] [] = T at *
    obtain ⟨a, b, c⟩ := T
    simp only at g2 g3
    rw [g2, g3]; rfl
  have hpad : padL (packC k.set.ord (greedy k d) (walkN k (greedy k d) [] []).ws) = [] ++ (packC k.set.ord (greedy k d) (walkN k (greedy k d) [] []).ws ++ List.replicate ((8 - (packC k.set.ord (greedy k d) (walkN k (greedy k d) [] []).ws).length % 8) % 8) 48) := rfl
  rw [hpad]
  obtain ⟨k', h⟩ := read_pack k.set.ord 0 0 (List.replicate ((8 - (packC k.set.ord (greedy k d) (walkN k (greedy k d) [] []).ws).length % 8) % 8) 48) (greedy k d) k [] [] [] [] (walkN k (greedy k d) [] []).ws d
    (8 * (packL k.set.ord (packC k.set.ord (greedy k d) (walkN k (greedy k d) [] []).ws)).length) hk hT g1 ⟨(k.c : Int) :: ys, by unfold greedy; rw [hys]; rfl⟩ (by omega) (by simp; omega)
    (by rw [← hpad, padL_length, hplen]; simp) (by rw [hplen]; omega)
  refine ⟨k', ?_⟩
  simpa using h
theorem dec_comp {k : KnD} {d : List UInt8} (hk : k.Ok) (hl : ∀ b ∈ d, b.toNat < k.c) (hd : d.length ≤ 2000) (h4 : (compL k d).length ≤ 4000) : decK k (compL k d) = ⟨d, 0, (compL k d).length⟩ := by
  obtain ⟨k', h⟩ := read_greedy hk hl hd
  unfold decK
  rw [if_pos h4]
  unfold usedS
  rw [h]
  simp only [if_neg (show ¬ (0 : Int) = 1 by decide)]
  unfold compL
  rw [packL_length]

end Go.Proofs.YtgbakgaegldomaaGreat
