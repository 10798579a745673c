/- Walk of the reference's l2Pack. Conditions: what is known is valid (KnD.Ok) and can be read; each code has a width. -/
import Derived.Test.YtmjpopfacagjhaaDoorWk
import Derived.Test.YtmjpopfacagjhaaDoorPack
namespace Go.Proofs.YtmjpopfacagjhaaDoor
set_option linter.unusedVariables false
set_option linter.unusedSimpArgs false
open Go Go.RowKit

/-- The bits of codes with widths. -/
def packC (o : Int) : List Int → List Int → List UInt8
  | x :: xs, w :: ws => codeL o x.toNat w.toNat ++ packC o xs ws
  | _, _ => []
theorem packC_snoc (o : Int) : ∀ (xs ws : List Int) (x w : Int), xs.length = ws.length → packC o (xs ++ [x]) (ws ++ [w]) = packC o xs ws ++ codeL o x.toNat w.toNat
  | [], [], x, w, _ => by simp [packC]
  | y :: ys, v :: vs, x, w, h => by
    simp only [List.cons_append, packC, List.append_assoc]
    rw [packC_snoc o ys vs x w (by simpa using h)]
  | [], _ :: _, _, _, h => by simp at h
  | _ :: _, [], _, _, h => by simp at h
theorem packC_take (o : Int) {xs ws : List Int} (h : xs.length = ws.length) {i : Nat} (hi : i < xs.length) : packC o (xs.take (i + 1)) (ws.take (i + 1)) = packC o (xs.take i) (ws.take i) ++ codeL o xs[i].toNat (ws[i]'(by omega)).toNat := by
  rw [List.take_succ_eq_append_getElem hi, List.take_succ_eq_append_getElem (by omega : i < ws.length), packC_snoc]
  rw [List.length_take, List.length_take, h]
theorem packC_len (o : Int) : ∀ (xs ws : List Int), (∀ w ∈ ws, 0 ≤ w ∧ w ≤ 16) → (packC o xs ws).length ≤ 16 * ws.length
  | [], ws, _ => by simp [packC]
  | _ :: _, [], _ => by simp [packC]
  | x :: xs, w :: ws, h => by
    simp only [packC, List.length_append, codeL_length, List.length_cons]
    have h1 := h w (List.mem_cons_self ..)
    have h2 := packC_len o xs ws fun v hv => h v (List.mem_cons_of_mem _ hv)
    omega
theorem isBits_packC (o : Int) : ∀ (xs ws : List Int), isBits (packC o xs ws)
  | [], ws => by simp [packC, isBits]
  | _ :: _, [] => by simp [packC, isBits]
  | x :: xs, w :: ws => by simp only [packC]; exact (isBits_code _ _ _).app (isBits_packC o xs ws)

structure PkAt (k : KnD) (v : Value) (codes ws : List Int) (vw : Value) (w : World) (i : Nat) (out : Value) (wr : World) : Prop where
  le : i ≤ codes.length
  kn : KnAt w.heap.size k v wr
  wid : ownI wr (w.heap.size + 1) vw ws
  own : ownU wr (w.heap.size + 1) out (packC k.set.ord (codes.take i) (ws.take i))
  up : Up w wr

def RelPk2 (k : KnD) (v : Value) (codes ws : List Int) (vw : Value) (w : World) (out i : Value) (wr : World) : Prop := ∃ n : Nat, i = .int .i64 n ∧ PkAt k v codes ws vw w n out wr
theorem RdI.at {lo : Nat} {w : World} {a : Option Addr} {n c : Nat} {l : List Int} (h : RdI lo w (.slice a n c) l) {i : Nat} (hi : i < l.length) : ∃ b off, a = some ⟨b, off, none⟩ ∧ b < w.heap.size ∧ w.cell? ⟨b, off + i, none⟩ = some (.int .i64 l[i]) ∧ n = l.length ∧ n ≤ c ∧ c ≤ maxLen ∧ lo ≤ b := by
  obtain ⟨a', c', e, h1, h2, h3⟩ := h
  cases e
  obtain ⟨b, off, e1, e2, e3, e4⟩ := h3 (by omega)
  exact ⟨b, off, e1, e3, e4 i _ (List.getElem?_eq_getElem hi), rfl, h1, h2, e2⟩

set_option maxRecDepth 100000 in
set_option maxHeartbeats 4000000 in
theorem l2Pack_any (k : KnD) (v : Value) (lo : Nat) (codes : List Int) (vc : Value) (lc : Nat) (w : World) (h : k.Ok) (hr : RdP lo w v k.ps) (hc : RdI lc w vc codes) (hl : codes.length ≤ 8192)
    (hw : (walkN k codes [] []).ws.length = codes.length) (hcb : ∀ x ∈ codes, 0 ≤ x ∧ x ≤ 1048576) (hwb : ∀ x ∈ (walkN k codes [] []).ws, 0 ≤ x ∧ x ≤ 16) :
    Calls Tryd.prog 88  #[kV k v, vc] w (Same (.string (bs (packC k.set.ord codes (walkN k codes [] []).ws))) w) := by
  have cW := fun wx hr hc => l2Walk_any k v lo codes vc lc wx h hr hc (by omega)
  have hrt := fun (wq : World) (hu : Up w wq) => hr.up hu
  have hct := fun (wq : World) (hu : Up w wq) => hc.up hu
  obtain ⟨a, cap, rfl, -, -, -, -⟩ := hr
  obtain ⟨ac, cc, rfl, hcc1, hcc2, -⟩ := id hc
  unfold maxLen at hcc2
  have hpl := packC_len k.set.ord codes _ hwb
  generalize walkN k codes [] [] = T at *
  have HW := Lib.hid hw
  have hwl : T.ws.length ≤ 8192 := by omega
  have HCB := Lib.hid hcb
  have HWB := Lib.hid hwb
  clear h hw hcb hwb
  simp only [kV] at *
  go_enter Tryd.func88, Tryd.ntmps88
  go_wp2_with (go_at_call 96; (with_reducible refine (cW _ (hrt _ (by (repeat (first | with_reducible exact Up.refl _ | with_reducible assumption | with_reducible refine Up.set ?_ (by first | exact Nat.le_refl _ | (simp only []; omega) | (simp; omega)) _ | with_reducible refine Up.alloc ?_ _ | with_reducible refine Up.drew ?_ | refine Up.trans ?_ (by with_reducible assumption))))) (hct _ (by (repeat (first | with_reducible exact Up.refl _ | with_reducible assumption | with_reducible refine Up.set ?_ (by first | exact Nat.le_refl _ | (simp only []; omega) | (simp; omega)) _ | with_reducible refine Up.alloc ?_ _ | with_reducible refine Up.drew ?_ | refine Up.trans ?_ (by with_reducible assumption)))))).mono ?_); rintro e w1 ⟨kv, vw, rfl, ⟨k3, a3, n3, c3, rfl⟩, ho1, U1⟩; obtain ⟨aw, cw, rfl⟩ := ownsRow_shape ho1; have B1 := bcell U1; have HO1 := Lib.hid ho1; clear ho1)
  have hU1 : Hid (Up w w1) := by unfold Hid; (repeat (first | with_reducible exact Up.refl _ | with_reducible assumption | with_reducible refine Up.set ?_ (by first | exact Nat.le_refl _ | (simp only []; omega) | (simp; omega)) _ | with_reducible refine Up.alloc ?_ _ | with_reducible refine Up.drew ?_ | refine Up.trans ?_ (by with_reducible assumption)))
  clear hrt
  go_loopw [5, 10] (fun out i wr => RelPk2 k (.slice a k.ps.length cap) codes T.ws (.slice aw T.ws.length cw) w out i wr) (fun _ i _ => codes.length - (intOf i).toNat)
  case atStart =>
    refine ⟨0, rfl, Nat.zero_le _, box_up (Up.alloc (Up.trans (Up.alloc (Up.refl _) _) U1) _) (MapKept.heap_alloc w _).1, ownsRow_base (ownsRow_up HO1.out (Up.alloc (Up.refl _) _)) (by simp), ?_, Up.alloc hU1.out _⟩
    exact ownsRow_up (ownsRow_up (own_mt (by simp) (by simp)) U1) (Up.alloc (Up.refl _) _)
  case round =>
    obtain ⟨n, rfl, hG⟩ := hrel
    have HG := Lib.hid hG
    have hle := hG.le
    obtain ⟨ad, cd, rfl⟩ := ownsRow_shape hG.own
    clear hG
    have hdl : (packC k.set.ord (codes.take n) (T.ws.take n)).length ≤ 131072 := by
      have := packC_len k.set.ord (codes.take n) (T.ws.take n) (fun x hx => HWB.out x (List.mem_of_mem_take hx))
      rw [List.length_take] at this
      omega
    have cv := conv_any HG.out.own rfl
    by_cases hlt : n < codes.length
    · have hlt2 : n < T.ws.length := by have := HW.out; omega
      have hx := fun (wq : World) (hu : Up w wq) => RdI.at (hct wq hu) hlt
      have hy := fun (wq : World) (hu : ownI wq (w.heap.size + 1) (.slice aw T.ws.length cw) T.ws) => RdI.at (RdI.of_own hu) hlt2
      have hb := HCB.out _ (List.getElem_mem hlt)
      have hb2 := HWB.out _ (List.getElem_mem hlt2)
      obtain ⟨xn, hxn⟩ := Int.eq_ofNat_of_zero_le hb.1
      obtain ⟨wn, hwn⟩ := Int.eq_ofNat_of_zero_le hb2.1
      obtain ⟨bc, oc, rfl, hbc1, hbc2, -, -, -, -⟩ := hx _ (Up.refl w)
      obtain ⟨bw, ow, rfl, hbw1, hbw2, -, hbw4, hbw5, -⟩ := hy _ HG.out.wid
      have cC := fun wx => l1Code_any k.set.ord xn wn wx (by omega) (by omega)
      have HS : Hid (packC k.set.ord (codes.take (n + 1)) (T.ws.take (n + 1)) = packC k.set.ord (codes.take n) (T.ws.take n) ++ codeL k.set.ord xn wn) := by
        unfold Hid
        rw [packC_take k.set.ord HW.out.symm hlt, hxn, hwn]; rfl
      rw [hxn] at hbc2
      have HWN := Lib.hid hwn
      clear hbw1 hbw2
      have hcln := codeL_length k.set.ord xn wn
      have hwn16 : wn ≤ 16 := by omega
      have hww : w.heap.size < wr.heap.size := HG.out.kn.cells.1
      unfold maxLen at hbw5
      have hown := HG.out.own
      clear hx hy hb hb2 hxn hwn
      generalize hpc : packC k.set.ord (codes.take n) (T.ws.take n) = pc at *
      generalize hpn : codeL k.set.ord xn wn = pn at *
      have HOW := Lib.hid hown
      clear hpc hpn hown
      go_wp2
      refine wp_region_own 14 13 (Value.slice ad pc.length cd).ownBlock (by kernel_rfl) (by kernel_rfl) ?_
      simp only [List.take, List.drop]
      repeat (refine wpG_step (fun K hK => ?_); go_simp; (try simp only [↓IntWalk.iteOmega]); first
        | (refine hK _ _ ?_; clear hK K)
        | (refine stepG_own (by rfl) (by kernel_rfl) ((fun u w' => ownU w' (w.heap.size + 1) u (pc ++ pn))) ((fun v w w' h hu => ownsRow_up h hu)) (fun wq hwq => ?_) ?_
           · ((repeat (first | refine fills_no (by rfl) ?_ | refine fills_yes (by rfl) (fun vq hvq => ?_))); simp only [List.filter_nil, fills]; (exact gAt_append_str (.tmp 26) (.tmp 38) (by rfl) (w.heap.size + 1) (.slice ad pc.length cd) pc pn (by rfl) (ownsRow_up HOW.out hwq) (by rfl) (by omega) (by omega) (by have := hwq.size; omega) _ rfl))
           refine hK _ _ ?_; clear hK K)
        | (refine stepG_c (by rfl) ?_ ?_ ?_
           rotate_left
           · intro wq hwq; (have hbq := gcell hwq; (repeat (first | refine fills_no (by rfl) ?_ | refine fills_yes (by rfl) (fun vq hvq => ?_))); simp only [List.filter_nil, fills]; unfold upAt; (try ((obtain ⟨-, r0, r1, r2, r3, r4, r5⟩ := (HG.out.kn.gr hwq (low_ne (w := w) HG.out.own (by omega))).cells; have hx := ((gcell hwq).1 bc _ (by omega) (low_ne (w := w) HG.out.own (by omega))).trans ((HG.out.up.cell (p := ⟨bc, oc + n, none⟩) hbc1).trans hbc2); obtain ⟨bw', ow', e, hb1, hy, -⟩ := RdI.at (RdI.of_own (HG.out.wid.kept hwq (rows_ne HG.out.wid HG.out.own (by decide)))) hlt2; cases e; rw [HWN.out] at hy))); go_simp; (try go_bits); (try simp only [↓IntWalk.iteOmega]); (try (rw [dif_pos (by omega)]; go_simp; try go_bits)); first | exact upOut_value | (apply upOut_call; (go_at_call 97; exact cC _)) | (apply upOut_eq; (go_at_call 97; exact cC _)))
           go_simp; refine hK _ _ ?_; clear hK K))
      refine wpG_nil (by rfl) (fun wq hwq => ?_)
      simp only [fills]
      rintro u ho
      obtain ⟨au, cu, rfl⟩ := ownsRow_shape ho
      have hkq := HG.out.kn.gr hwq (low_ne (w := w) HG.out.own (by omega))
      have hwq2 := HG.out.wid.kept hwq (rows_ne HG.out.wid HG.out.own (by decide))
      have huq := Up.grown HG.out.up hwq (fun y hy => by have := (HG.out.own.lt y hy).1; omega)
      have HQ := Lib.hid (And.intro hkq (And.intro hwq2 (And.intro huq ho)))
      clear hkq hwq2 huq ho hwq cC cv
      go_wp2
      go_roundw
      case rel =>
        obtain ⟨g1, g2, g3, g4⟩ := HQ.out
        refine ⟨n + 1, by go_num, by omega, g1, g2, ?_, g3⟩
        have e : (pc ++ pn).length = pc.length + wn := by rw [List.length_append, hcln]
        rw [e] at g4
        rw [HS.out]
        exact g4
      case measure => simp [intOf]; omega
    · have HT : Hid (packC k.set.ord (codes.take n) (T.ws.take n) = packC k.set.ord codes T.ws) := by
        unfold Hid
        rw [List.take_of_length_le (by omega), List.take_of_length_le (by have := HW.out; omega)]
      go_wp2
      go_ret
      exact ⟨ret_str (by rw [HT.out]), HG.out.up⟩

end Go.Proofs.YtmjpopfacagjhaaDoor
