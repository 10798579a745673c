/- Texts joined into one: the walks and laws that the last text leans on. Conditions: as each says. -/
import Derived.Test.YtgbakgaegldomaaGreatMFnWholeTravelLawE
import Derived.Test.YtgbakgaegldomaaGreatWd
import Derived.Test.YtgbakgaegldomaaGreatGlen
import Derived.Test.YtgbakgaegldomaaGreatComp
import Derived.Test.YtgbakgaegldomaaGreatWc
import Derived.Test.YtgbakgaegldomaaGreatMFnWholeTravelLawC

set_option linter.unusedVariables false
set_option linter.unusedSimpArgs false
/- Walks of the program's PackCodes, GreedyCodes, Compress. Conditions: what is known is valid and can be read. -/
namespace Go.Proofs.YtgbakgaegldomaaGreat
open Go Go.RowKit
theorem packC_len10 (o : Int) : ∀ (xs ws : List Int), (∀ w ∈ ws, 0 ≤ w ∧ w ≤ 10) → (packC o xs ws).length ≤ 10 * ws.length
  | [], ws, _ => by simp [packC]
  | _ :: _, [], _ => by simp [packC]
  | x :: xs, w :: ws, h => by
    simp only [packC, List.length_append, codeL_length, List.length_cons]
    have h1 := h w (List.mem_cons_self ..)
    have h2 := packC_len10 o xs ws fun v hv => h v (List.mem_cons_of_mem _ hv)
    omega
set_option maxRecDepth 100000 in
set_option maxHeartbeats 1000000 in
theorem packBI_any (o : Int) (s : ByteArray) (w : World) (ho : o = 0 ∨ o = 1) (hb : isBits s.data.toList) (hs : s.size ≤ 32000) :
    Calls Tryz.prog 13  #[.int .i64 o, .string s] w (Same (.tuple #[.string (bs (packL o s.data.toList)), .bool true]) w) := by
  have cO := fun w => orderI_any o w
  have cV := fun w => bitsVI_any s w hb hs
  have cP := fun w => packI_any o s w ho hb (by omega)
  have ho1 : (o == 0 || o == 1) = true := by rcases ho with rfl | rfl <;> rfl
  rw [ho1] at cO
  clear hb ho ho1
  go_enter Tryz.func13, Tryz.ntmps13
  go_wp2_with (first | (go_at_call 49; (with_reducible refine (cO _).mono ?_); rintro e w' ⟨rfl, rfl⟩) | (go_at_call 50; (with_reducible refine (cV _).mono ?_); rintro e w' ⟨rfl, rfl⟩) | (go_at_call 48; (with_reducible refine (cP _).mono ?_); rintro e w3 ⟨rfl, U3⟩; have B3 := bcell U3; have Z3 := U3.size; (try simp at Z3); (try rw [Nat.add_one_le_iff] at Z3)))
  go_ret2
  exact ⟨rfl, U3⟩
theorem nil_row {w : World} {base : Nat} {e : TypeId} {size n c : Nat} {a : Option Addr} {xs : List Value} (h : w.ownsRow base e size (.slice a n c) n xs) : a = none → n = 0 ∧ c = 0 := fun ha => by
  subst ha
  rcases h.2 with ⟨e1, _⟩ | ⟨g, cp, cur, e1, _⟩
  · simpa using e1
  · simp at e1
theorem clipI_any (a : Option Addr) (n c : Nat) (w : World) (h : n ≤ c) (hc : c ≤ 9223372036854775807) (ha : a = none → n = 0 ∧ c = 0) :
    Calls Tryz.prog 87 #[.slice a n c] w (fun e w' => e = .returned (.slice a n n) ∧ w = w') := by
  cases a with
  | none =>
    obtain ⟨h1, h2⟩ := ha rfl
    subst h1; subst h2
    go_enter Tryz.func87, Tryz.ntmps87
    go_wp2
    go_ret
    exact ⟨rfl, rfl⟩
  | some ad =>
    clear ha
    go_enter Tryz.func87, Tryz.ntmps87
    go_wp2
    go_ret
    exact ⟨rfl, rfl⟩
def RelPc (o : Int) (codes ws : List Int) (a0 : World) (out i : Value) (wr : World) : Prop := ∃ n : Nat, i = .int .i64 n ∧ n ≤ codes.length ∧ ownU wr a0.heap.size out (packC o (codes.take n) (ws.take n)) ∧ Up a0 wr
set_option maxRecDepth 100000 in
set_option maxHeartbeats 8000000 in
theorem packCI_any (k : KnD) (v : Value) (lo : Nat) (codes : List Int) (vc : Value) (lc : Nat) (w : World) (h : k.Ok) (hv : k.last = -1 → k.base = k.ps.length) (hr : RdP lo w v k.ps) (hc : RdI lc w vc codes) (hl : codes.length ≤ 3100) (hT : (walkN k codes [] []).ok = true) (hD : (walkN k codes [] []).data.length ≤ 2000)
    (hw : (walkN k codes [] []).ws.length = codes.length) (hcb : ∀ x ∈ codes, 0 ≤ x ∧ x ≤ 1048576) (hwb : ∀ x ∈ (walkN k codes [] []).ws, 0 ≤ x ∧ x ≤ 10) :
    Calls Tryz.prog 38  #[kV k v, vc] w (Same (.tuple #[.string (bs (packL k.set.ord (packC k.set.ord codes (walkN k codes [] []).ws))), .bool true]) w) := by
  have cW := fun wx hr hc => walkI_any k v lo codes vc lc wx h hv hr hc hl hT hD
  have hrt := fun (wq : World) (hu : Up w wq) => hr.up hu
  have hct := fun (wq : World) (hu : Up w wq) => hc.up hu
  have ho := (setOk_bd h.set).1
  obtain ⟨a, cap, rfl, -, -, -, -⟩ := hr
  obtain ⟨ac, cc, rfl, hcc1, hcc2, -⟩ := id hc
  unfold maxLen at hcc2
  have hpl := packC_len10 k.set.ord codes _ hwb
  have hib := isBits_packC k.set.ord codes (walkN k codes [] []).ws
  clear hT hD
  generalize walkN k codes [] [] = T at *
  have hwl : T.ws.length ≤ 3100 := by omega
  have cP := fun wx => packBI_any k.set.ord (bs (packC k.set.ord codes T.ws)) wx ho (by rw [bs_data]; exact hib) (by rw [bs_size]; omega)
  rw [bs_data] at cP
  have HW := Lib.hid hw
  have HCB := Lib.hid hcb
  have HWB := Lib.hid hwb
  clear h hv hw hcb hwb hib
  simp only [kV] at *
  go_enter Tryz.func38, Tryz.ntmps38
  go_wp2_with (go_at_call 89; (with_reducible refine (cW _ (hrt _ (by (repeat (first | with_reducible exact Up.refl _ | with_reducible assumption | with_reducible refine Up.set ?_ (by first | exact Nat.le_refl _ | (simp only []; omega) | (simp; omega)) _ | with_reducible refine Up.alloc ?_ _ | with_reducible refine Up.drew ?_ | refine Up.trans ?_ (by with_reducible assumption))))) (hct _ (by (repeat (first | with_reducible exact Up.refl _ | with_reducible assumption | with_reducible refine Up.set ?_ (by first | exact Nat.le_refl _ | (simp only []; omega) | (simp; omega)) _ | with_reducible refine Up.alloc ?_ _ | with_reducible refine Up.drew ?_ | refine Up.trans ?_ (by with_reducible assumption)))))).mono ?_); rintro e w1 ⟨vw, rfl, ho1, U1⟩; obtain ⟨aw, cw, rfl⟩ := ownsRow_shape ho1; have B1 := bcell U1; have HO1 := Lib.hid ho1; clear ho1)
  have hU1 : Up w w1 := by (repeat (first | with_reducible exact Up.refl _ | with_reducible assumption | with_reducible refine Up.set ?_ (by first | exact Nat.le_refl _ | (simp only []; omega) | (simp; omega)) _ | with_reducible refine Up.alloc ?_ _ | with_reducible refine Up.drew ?_ | refine Up.trans ?_ (by with_reducible assumption)))
  have HK1 : KnAt w.heap.size k (.slice a k.ps.length cap) w1 := box_up U1 (MapKept.heap_alloc w _).1
  have HK := Lib.hid HK1
  clear hrt HK1 U1 B1 cW
  go_loopw [9, 23] (fun out i wr => RelPc k.set.ord codes T.ws w1 out i wr) (fun _ i _ => codes.length - (intOf i).toNat)
  case atStart => exact ⟨0, rfl, Nat.zero_le _, World.ownsRow_nil _ _ _ _, Up.refl _⟩
  case round =>
    obtain ⟨n, rfl, hle, hown, hup⟩ := hrel
    have hdl : (packC k.set.ord (codes.take n) (T.ws.take n)).length ≤ 131072 := by
      have := packC_len10 k.set.ord (codes.take n) (T.ws.take n) (fun x hx => HWB.out x (List.mem_of_mem_take hx))
      rw [List.length_take] at this
      omega
    obtain ⟨-, r0, r1, r2, r3, r4, r5⟩ := (HK.out.up hup).cells
    obtain ⟨ad, cd, rfl⟩ := ownsRow_shape hown
    have HOW := Lib.hid hown
    have HUP := Lib.hid hup
    by_cases hlt : n < codes.length
    · have hlt2 : n < T.ws.length := by have := HW.out; omega
      obtain ⟨bc, oc, rfl, hbc1, hbc2, -, -, -, -⟩ := RdI.at (hct _ (hU1.trans hup)) hlt
      obtain ⟨bw, ow, rfl, hbw1, hbw2, -, hbw4, hbw5, -⟩ := RdI.at (RdI.of_own (ownsRow_up HO1.out hup)) hlt2
      have hb := HCB.out _ (List.getElem_mem hlt)
      have hb2 := HWB.out _ (List.getElem_mem hlt2)
      obtain ⟨xn, hxn⟩ := Int.eq_ofNat_of_zero_le hb.1
      obtain ⟨wn, hwn⟩ := Int.eq_ofNat_of_zero_le hb2.1
      have cB := fun wq hu hown => bitsI_any w1 k.set.ord xn wn (.slice ad (packC k.set.ord (codes.take n) (T.ws.take n)).length cd) (packC k.set.ord (codes.take n) (T.ws.take n)) wq ho (by omega) (by omega) (by omega) hu hown
      have HS : Hid (packC k.set.ord (codes.take (n + 1)) (T.ws.take (n + 1)) = packC k.set.ord (codes.take n) (T.ws.take n) ++ codeL k.set.ord xn wn) := by
        unfold Hid
        rw [packC_take k.set.ord HW.out.symm hlt, hxn, hwn]; rfl
      rw [hxn] at hbc2
      rw [hwn] at hbw2
      unfold maxLen at hbw5
      generalize packC k.set.ord (codes.take n) (T.ws.take n) = dn at *
      clear hb hb2 hxn hwn hown hup
      go_wp2
      refine wp_region_upR 9 (by kernel_rfl) (by kernel_rfl) ?_
      simp only [List.take, List.drop]
      repeat (refine wpUp_step (fun K hK => ?_); go_simp; (try simp only [↓IntWalk.iteOmega]); first
        | (refine hK _ _ ?_; clear hK K)
        | (apply stepU_c
           · intro wq hwq; (have hbq := bcell hwq; (repeat (first | refine fills_no (by rfl) ?_ | refine fills_yes (by rfl) (fun vq hvq => ?_))); simp only [List.filter_nil, fills]; unfold upAt; (try ((obtain ⟨-, r0, r1, r2, r3, r4, r5⟩ := (HK.out.up (HUP.out.trans hwq)).cells; have hbw3 := (hwq.cell (p := ⟨bw, ow + n, none⟩) hbw1).trans hbw2))); go_simp; (try go_bits); (try simp only [↓IntWalk.iteOmega]); (try (rw [dif_pos (by omega)]; go_simp; try go_bits)); first | exact upOut_value)
           go_simp; refine hK _ _ ?_; clear hK K))
      refine wpUp_nil (fun wq hwq => ?_)
      simp only [fills]
      go_wp2_with fail
      with_reducible refine (cB _ (HUP.out.trans hwq) (ownsRow_up HOW.out hwq)).mono ?_
      rintro e w5 ⟨v5, rfl, ho5, hU5⟩
      obtain ⟨a5, c5, rfl⟩ := ownsRow_shape (ownsRow_n2 (n' := dn.length + (codeL k.set.ord xn wn).length) ho5 (by simp))
      have HO5 := Lib.hid ho5
      clear ho5
      go_wp2
      go_roundw
      case rel => exact ⟨n + 1, by go_num, by omega, by rw [HS.out]; exact HO5.out, hU5⟩
      case measure => simp [intOf]; omega
    · have e : n = codes.length := by omega
      subst e
      have ht1 : codes.take codes.length = codes := List.take_length
      have ht2 : T.ws.take codes.length = T.ws := by rw [← HW.out]; exact List.take_length
      rw [ht1, ht2] at hown hdl ⊢
      have cv := conv_any hown rfl
      clear hown ht1 ht2 HOW
      generalize packC k.set.ord codes T.ws = dn at *
      go_wp2_with ((go_at_call 13; (with_reducible refine (cP _).mono ?_); rintro e w5 ⟨rfl, U5⟩; have B5 := bcell U5; have Z5 := U5.size; (try simp at Z5); (try rw [Nat.add_one_le_iff] at Z5)))
      go_ret2
      exact ⟨rfl, hU1.trans (hup.trans U5)⟩
def GcPost (l : List Int) (w : World) (e : Ending) (w' : World) : Prop := ∃ v, e = .returned (.tuple #[v, .bool true]) ∧ RdI 0 w' v l ∧ Up w w'
set_option maxRecDepth 100000 in
set_option maxHeartbeats 4000000 in
theorem gcodesI_any (k : KnD) (v : Value) (lo : Nat) (d : ByteArray) (w : World) (h : k.Ok) (hv : k.last = -1 → k.base = k.ps.length) (hr : RdP lo w v k.ps) (hd : d.size ≤ 1073741824) :
    Calls Tryz.prog 37  #[kV k v, .string d] w (fun e w' => if fitsB k.set d.data.toList then GcPost (greedy k d.data.toList) w e w' else Same (.tuple #[.slice none 0 0, .bool false]) w e w') := by
  have cV := fun wx hr => kvI_any k v lo wx h hv hr
  obtain ⟨-, hlb, -, -⟩ := setOk_bd h.set
  have cF := fun wx => fitsI_any k.set d wx (by omega) hd
  have hrt := fun (wq : World) (hu : Up w wq) => hr.up hu
  have hlen := ba_len d
  cases hf : fitsB k.set d.data.toList
  · rw [hf] at cF
    simp only [Bool.false_eq_true, if_false]
    obtain ⟨a, cap, rfl, -, -, -, -⟩ := hr
    clear h hv hf
    simp only [kV] at *
    go_enter Tryz.func37, Tryz.ntmps37
    go_wp2_with (first | (go_at_call 39; (with_reducible refine (cV _ (hrt _ (by (repeat (first | with_reducible exact Up.refl _ | with_reducible assumption | with_reducible refine Up.set ?_ (by first | exact Nat.le_refl _ | (simp only []; omega) | (simp; omega)) _ | with_reducible refine Up.alloc ?_ _ | with_reducible refine Up.drew ?_ | refine Up.trans ?_ (by with_reducible assumption)))))).mono ?_); rintro e w1 ⟨rfl, U1⟩; have B1 := bcell U1; have Z1 := U1.size; (try simp at Z1); (try rw [Nat.add_one_le_iff] at Z1)) | (go_at_call 42; (with_reducible refine (cF _).mono ?_); rintro e w2 ⟨rfl, U2⟩; have B2 := bcell U2; have Z2 := U2.size; (try simp at Z2); (try rw [Nat.add_one_le_iff] at Z2)))
    go_ret2
    refine ⟨rfl, ?_⟩
    (repeat (first | with_reducible exact Up.refl _ | with_reducible assumption | with_reducible refine Up.set ?_ (by first | exact Nat.le_refl _ | (simp only []; omega) | (simp; omega)) _ | with_reducible refine Up.alloc ?_ _ | with_reducible refine Up.drew ?_ | refine Up.trans ?_ (by with_reducible assumption)))
  · rw [hf] at cF
    simp only [if_true]
    obtain ⟨-, h2, h3⟩ := fitsB_lits hf
    have cG := fun wx hr => greedy_any k v lo d wx h hr (by omega) h3
    obtain ⟨a, cap, rfl, -, -, -, -⟩ := hr
    clear h hv hf h3
    generalize greedy k d.data.toList = codes at *
    simp only [kV] at *
    go_enter Tryz.func37, Tryz.ntmps37
    go_wp2_with (first | (go_at_call 39; (with_reducible refine (cV _ (hrt _ (by (repeat (first | with_reducible exact Up.refl _ | with_reducible assumption | with_reducible refine Up.set ?_ (by first | exact Nat.le_refl _ | (simp only []; omega) | (simp; omega)) _ | with_reducible refine Up.alloc ?_ _ | with_reducible refine Up.drew ?_ | refine Up.trans ?_ (by with_reducible assumption)))))).mono ?_); rintro e w1 ⟨rfl, U1⟩; have B1 := bcell U1; have Z1 := U1.size; (try simp at Z1); (try rw [Nat.add_one_le_iff] at Z1)) | (go_at_call 42; (with_reducible refine (cF _).mono ?_); rintro e w2 ⟨rfl, U2⟩; have B2 := bcell U2; have Z2 := U2.size; (try simp at Z2); (try rw [Nat.add_one_le_iff] at Z2)) | (go_at_call 88; (with_reducible refine (cG _ (hrt _ (by (repeat (first | with_reducible exact Up.refl _ | with_reducible assumption | with_reducible refine Up.set ?_ (by first | exact Nat.le_refl _ | (simp only []; omega) | (simp; omega)) _ | with_reducible refine Up.alloc ?_ _ | with_reducible refine Up.drew ?_ | refine Up.trans ?_ (by with_reducible assumption)))))).mono ?_); rintro e w3 ⟨v3, rfl, ho3, U3⟩; have hrd3 := RdI.of_own ho3; obtain ⟨a3, c3, rfl⟩ := ownsRow_shape ho3; have hcp3 := ownsRow_cap ho3; have hn3 := nil_row ho3; have HRD := Lib.hid hrd3; clear hrd3 ho3) | (go_at_call 87; (with_reducible refine (clipI_any _ _ _ _ hcp3.1 hcp3.2 hn3).mono ?_); rintro e w' ⟨rfl, rfl⟩))
    go_ret2
    refine ⟨_, rfl, ?_, by (repeat (first | with_reducible exact Up.refl _ | with_reducible assumption | with_reducible refine Up.set ?_ (by first | exact Nat.le_refl _ | (simp only []; omega) | (simp; omega)) _ | with_reducible refine Up.alloc ?_ _ | with_reducible refine Up.drew ?_ | refine Up.trans ?_ (by with_reducible assumption)))⟩
    obtain ⟨a', cap', e1, e2, e3, e4⟩ := HRD.out
    cases e1
    exact ⟨_, _, rfl, Nat.le_refl _, by omega, fun hp => by
      obtain ⟨b, off, f1, f2, f3, f4⟩ := e4 hp
      exact ⟨b, off, f1, Nat.zero_le _, f3, f4⟩⟩
set_option maxRecDepth 100000 in
set_option maxHeartbeats 4000000 in
theorem compI_any (k : KnD) (v : Value) (lo : Nat) (d : ByteArray) (w : World) (h : k.Ok) (hv : k.last = -1 → k.base = k.ps.length) (hr : RdP lo w v k.ps) (hd : d.size ≤ 1073741824) :
    Calls Tryz.prog 10  #[kV k v, .string d] w (Same (optS (compO k d.data.toList)) w) := by
  have cG := fun wx hr => gcodesI_any k v lo d wx h hv hr hd
  have hrt := fun (wq : World) (hu : Up w wq) => hr.up hu
  have hlen := ba_len d
  unfold compO optS
  cases hf : fitsB k.set d.data.toList
  · rw [hf] at cG
    simp only [Bool.false_eq_true, if_false] at cG ⊢
    obtain ⟨a, cap, rfl, -, -, -, -⟩ := hr
    clear h hv hf
    simp only [kV] at *
    go_enter Tryz.func10, Tryz.ntmps10
    go_wp2_with ((go_at_call 37; (with_reducible refine (cG _ (hrt _ (by (repeat (first | with_reducible exact Up.refl _ | with_reducible assumption | with_reducible refine Up.set ?_ (by first | exact Nat.le_refl _ | (simp only []; omega) | (simp; omega)) _ | with_reducible refine Up.alloc ?_ _ | with_reducible refine Up.drew ?_ | refine Up.trans ?_ (by with_reducible assumption)))))).mono ?_); rintro e w1 ⟨rfl, U1⟩; have B1 := bcell U1; have Z1 := U1.size; (try simp at Z1); (try rw [Nat.add_one_le_iff] at Z1)))
    go_ret2
    refine ⟨rfl, ?_⟩
    (repeat (first | with_reducible exact Up.refl _ | with_reducible assumption | with_reducible refine Up.set ?_ (by first | exact Nat.le_refl _ | (simp only []; omega) | (simp; omega)) _ | with_reducible refine Up.alloc ?_ _ | with_reducible refine Up.drew ?_ | refine Up.trans ?_ (by with_reducible assumption)))
  · rw [hf] at cG
    simp only [if_true] at cG ⊢
    obtain ⟨-, h2, h3⟩ := fitsB_lits hf
    obtain ⟨g1, g2, g3, g4, g5⟩ := walk_greedy h h3 (by omega)
    have g6 := greedy_tight h h3 (by omega)
    have cP := fun wx vc hr hc => packCI_any k v lo (greedy k d.data.toList) vc 0 wx h hv hr hc (by omega) g3 (by rw [g2]; omega) g1 (fun x hx => ⟨(g5 x hx).1, by have := (g5 x hx).2; omega⟩) (fun x hx => ⟨by have := (g4 x hx).1; omega, (g4 x hx).2⟩)
    have HE : Hid (compL k d.data.toList = packL k.set.ord (packC k.set.ord (greedy k d.data.toList) (walkN k (greedy k d.data.toList) [] []).ws)) := rfl
    simp only [Option.getD_some, Option.isSome_some]
    rw [HE.out]
    generalize packL k.set.ord (packC k.set.ord (greedy k d.data.toList) (walkN k (greedy k d.data.toList) [] []).ws) = cl at *
    clear g1 g2 g3 g4 g5 g6 HE hf h3
    generalize greedy k d.data.toList = codes at *
    obtain ⟨a, cap, rfl, -, -, -, -⟩ := hr
    clear h hv
    simp only [kV] at *
    go_enter Tryz.func10, Tryz.ntmps10
    go_wp2_with (first | (go_at_call 37; (with_reducible refine (cG _ (hrt _ (by (repeat (first | with_reducible exact Up.refl _ | with_reducible assumption | with_reducible refine Up.set ?_ (by first | exact Nat.le_refl _ | (simp only []; omega) | (simp; omega)) _ | with_reducible refine Up.alloc ?_ _ | with_reducible refine Up.drew ?_ | refine Up.trans ?_ (by with_reducible assumption)))))).mono ?_); rintro e w1 ⟨v1, rfl, hr1, U1⟩; have B1 := bcell U1; have HR1 := Lib.hid hr1; obtain ⟨a1, c1, rfl, -, -, -⟩ := hr1) | (go_at_call 38; (with_reducible refine (cP _ _ (hrt _ (by (repeat (first | with_reducible exact Up.refl _ | with_reducible assumption | with_reducible refine Up.set ?_ (by first | exact Nat.le_refl _ | (simp only []; omega) | (simp; omega)) _ | with_reducible refine Up.alloc ?_ _ | with_reducible refine Up.drew ?_ | refine Up.trans ?_ (by with_reducible assumption))))) HR1.out).mono ?_); rintro e w2 ⟨rfl, U2⟩; have B2 := bcell U2; have Z2 := U2.size; (try simp at Z2); (try rw [Nat.add_one_le_iff] at Z2)))
    go_ret2
    refine ⟨rfl, ?_⟩
    (repeat (first | with_reducible exact Up.refl _ | with_reducible assumption | with_reducible refine Up.set ?_ (by first | exact Nat.le_refl _ | (simp only []; omega) | (simp; omega)) _ | with_reducible refine Up.alloc ?_ _ | with_reducible refine Up.drew ?_ | refine Up.trans ?_ (by with_reducible assumption)))
end Go.Proofs.YtgbakgaegldomaaGreat

/- Walks of the program's learn, LearnKnown, StartWith. Conditions: what is known is valid and can be read. -/
namespace Go.Proofs.YtgbakgaegldomaaGreat
open Go Go.RowKit
structure LiD (T : KnD) (k0 : KnD) (L : List UInt8) (m : Nat) (k : KnD) (n : Nat) : Prop where
  len : L.length ≤ n + m
  le : n ≤ L.length
  tot : learnN m k (L.drop n) = T
  ok : k.Ok
  set : k.set = k0.set
structure LiW (w : World) (tb : Nat) (k : KnD) (vp vn vi : Value) (wr : World) : Prop where
  tree : TreeAt (w.heap.size + 2) tb k vp vn vi wr
  res : KnAt (w.heap.size + 1) ⟨⟨0, 0, 0⟩, [], 0, 0⟩ (.slice none 0 0) wr
  up : Up w wr
theorem LiW.upd {w : World} {tb : Nat} {k : KnD} {vp vn vi : Value} {wr w' : World} (h : LiW w tb k vp vn vi wr) (hu : Up wr w') : LiW w tb k vp vn vi w' := ⟨h.tree.up hu, h.res.up hu, h.up.trans hu⟩
theorem LiW.tr {w : World} {tb : Nat} {k k' : KnD} {vp vn vi : Value} {wr w' : World} (h : LiW w tb k vp vn vi wr) (hp : TrPost (w.heap.size + 2) tb k' vp vn vi wr w') : ∃ vp' vn' vi', LiW w tb k' vp' vn' vi' w' := by
  obtain ⟨vp', vn', vi', hT, hF, hO⟩ := hp
  exact ⟨vp', vn', vi', hT, hF.box h.res (fun ho => by have := (h.tree.own_lo _ ho).1; omega), Fr.upto h.up hF (fun b hb => by have := (h.tree.own_lo b hb).1; omega)⟩
theorem LiD.step {T k0 : KnD} {L : List UInt8} {m : Nat} {k : KnD} {n : Nat} (h : LiD T k0 L m k n) (hn : n < L.length) (hl : ∀ b ∈ L, b.toNat < k0.c) :
    k.follows (k.find (k.longest (L.drop n))) = true ∧ ¬ k.find (k.longest (L.drop n)) = (k.c : Int) ∧ 1 ≤ (k.longest (L.drop n)).length ∧ n + (k.longest (L.drop n)).length ≤ L.length ∧ LiD T k0 L (m - 1) (k.after (k.find (k.longest (L.drop n)))) (n + (k.longest (L.drop n)).length) := by
  have hde : L.drop n ≠ [] := fun e => by rw [List.drop_eq_nil_iff] at e; omega
  have hll := KnD.longest_le (k := k) (L.drop n)
  have hlp := KnD.longest_pos (k := k) hde
  have hl2 : ∀ b ∈ L.drop n, b.toNat < k.c := fun b hb => by rw [c_of h.set]; exact hl b (List.mem_of_mem_drop hb)
  obtain ⟨hfw, -⟩ := KnD.find_any h.ok hde hl2
  rw [List.length_drop] at hll
  have h1 := h.len; have h4 := h.tot
  obtain ⟨m', rfl⟩ : ∃ m', m = m' + 1 := ⟨m - 1, by omega⟩
  refine ⟨hfw, (KnD.fol_ne h.ok hfw).1, hlp, by omega, by omega, by omega, ?_, KnD.after_ok h.ok hfw, h.set⟩
  rw [learnN_step hde, List.drop_drop] at h4
  exact h4
def RelLi (T k0 : KnD) (L : List UInt8) (tb : Nat) (w : World) (q i : Value) (wr : World) : Prop := ∃ (k : KnD) (n : Nat) (vp vn vi : Value) (m : Nat) (y : Int), q = .int .i64 y ∧ i = .int .i64 n ∧ LiD T k0 L m k n ∧ LiW w tb k vp vn vi wr
def LnPost (k : KnD) (w : World) (e : Ending) (w' : World) : Prop := ∃ v y, e = .returned (.tuple #[kV k v, .int .i64 y]) ∧ ownPr w' w.heap.size v k.ps ∧ Up w w'
set_option maxRecDepth 100000 in
set_option maxHeartbeats 8000000 in
theorem learnI_any (k : KnD) (v : Value) (lo : Nat) (d : ByteArray) (w : World) (hk : k.Ok) (hr : RdP lo w v k.ps) (hd : d.size ≤ 2000) (hl : ∀ b ∈ d.data.toList, b.toNat < k.c) :
    Calls Tryz.prog 110  #[kV k v, .string d] w (LnPost (learnK k d.data.toList) w) := by
  have hkt := hk.tr
  have cK := fun w => clearI_any k.set w hk.set
  have hrt := fun (wq : World) (hu : Up w wq) => hr.up hu
  have cN := fun wq hr => newTree_any k v lo wq hk hr
  have HK := Lib.hid hk
  have hkb := And.intro hk.base0 hk.base1
  obtain ⟨a, cap, rfl, -, -, -, -⟩ := hr
  have HLl := Lib.hid hl
  have hdl := ba_len d
  clear hk hl
  simp only [kV] at *
  go_enter Tryz.func110, Tryz.ntmps110
  go_wp2_with fail
  with_reducible refine (cN _ (hrt _ (by (repeat (first | with_reducible exact Up.refl _ | with_reducible assumption | with_reducible refine Up.set ?_ (by first | exact Nat.le_refl _ | (simp only []; omega) | (simp; omega)) _ | with_reducible refine Up.alloc ?_ _ | with_reducible refine Up.drew ?_ | refine Up.trans ?_ (by with_reducible assumption)))))).mono ?_
  rintro e w2 ⟨tb, vp, vn, vi, rfl, hT2, U2⟩
  have hW2 : LiW w tb k vp vn vi w2 := ⟨hT2.base (by simp), box_up U2 (alloc2 w _ _), by (repeat (first | with_reducible exact Up.refl _ | with_reducible assumption | with_reducible refine Up.set ?_ (by first | exact Nat.le_refl _ | (simp only []; omega) | (simp; omega)) _ | with_reducible refine Up.alloc ?_ _ | with_reducible refine Up.drew ?_ | refine Up.trans ?_ (by with_reducible assumption)))⟩
  obtain ⟨-, r0, r1, r2, r3, r4, r5⟩ := KnAt.cells (b := w.heap.size) (k := k) (v := .slice a k.ps.length cap) (box_up U2 (box_up ((Up.refl _).alloc _) (MapKept.heap_alloc w _).1))
  have HW2 := Lib.hid hW2
  have htb2 := hT2.lt
  clear hT2 U2 hW2 cN hrt
  go_wp2_with (first | (go_at_call 47; (with_reducible refine (cK _).mono ?_); rintro e w3 ⟨rfl, U3⟩; have B3 := bcell U3; have Z3 := U3.size; (try simp at Z3); (try rw [Nat.add_one_le_iff] at Z3)) | fail)
  have cF := followC_any (w.heap.size + 2) tb k vp vn vi w3 (HW2.out.upd U3).tree hkt hkb.1 hkb.2
  rw [show k.c = clr k.set from rfl] at cF
  with_reducible refine cF.mono ?_
  rintro e w4 ⟨⟨vv, rfl⟩, hP4⟩
  obtain ⟨vp4, vn4, vi4, hW4⟩ := (HW2.out.upd U3).tr hP4
  have HW4 := Lib.hid hW4
  clear hP4 hW4 U3 B3 Z3 cF
  have HL : Hid (d = bs d.data.toList) := (bs_self d).symm
  generalize d.data.toList = L at *
  have hLs := bs_size L
  have hd2 : L.length ≤ 2000 := by omega
  rw [HL.out]
  clear hdl hd
  go_wp2
  go_loopw [7, 8] (fun q i wr => RelLi (learnN L.length k.cleared L) k L tb w q i wr) (fun _ i _ => L.length - (intOf i).toNat)
  case atStart => exact ⟨k.cleared, 0, vp4, vn4, vi4, L.length, 0, rfl, rfl, ⟨by omega, Nat.zero_le _, by rw [List.drop_zero], KnD.cleared_ok HK.out, rfl⟩, HW4.out⟩
  case round =>
    obtain ⟨k1, n, vp, vn, vi, m, y, rfl, rfl, hD, hW⟩ := hrel
    have hle := hD.le
    have HD := Lib.hid hD
    have HW := Lib.hid hW
    have hpl1 := hD.ok.nums.2.2.2.1
    obtain ⟨ap, cp, rfl⟩ := hW.tree.shape
    have htb := hW.tree.lt
    obtain ⟨c0, c1, c2, c3, c4, c5, c6, c7⟩ := hW.tree.cells
    by_cases hlt : n < L.length
    · have cG := fun wq => growI_any k1.set k1.base k1.last ap k1.ps.length cp wq hD.ok.set (by omega)
      rw [growN_eq] at cG
      simp only [knV] at cG
      obtain ⟨hfw, hxc, hlp, hll, hD9⟩ := hD.step hlt HLl.out
      have hok2 := hD.ok
      have hset := hD.set
      have cL := fun wq hT => longest_any (w.heap.size + 2) tb k1 (.slice ap k1.ps.length cp) vn vi (bs (L.drop n)) wq hT hok2 (by rw [bs_size, List.length_drop]; omega) (by rw [bs_size, List.length_drop]; omega) (by rw [bs_data, c_of hset]; exact fun b hb => HLl.out b (List.mem_of_mem_drop hb))
      rw [bs_data] at cL
      have cG2 := fun wq hT => followW_any (w.heap.size + 2) tb k1 (.slice ap k1.ps.length cp) vn vi (k1.find (k1.longest (L.drop n))) wq hT hok2 hxc hfw
      have hbd : Hid ((bs L).extract n L.length = bs (L.drop n)) := bs_drop' L n L.length rfl
      have HD9 := Lib.hid hD9
      clear hD9 hfw hxc hok2 hset hD hW
      generalize hx : k1.find (k1.longest (L.drop n)) = x at *
      generalize hnl : (k1.longest (L.drop n)).length = n1 at *
      generalize hka : k1.after x = k9 at *
      clear hx hnl hka
      cases hg : k1.grow
      all_goals
        rw [hg] at cG
        clear hg
        go_wp2_with (first | ((go_at_call 97; (with_reducible refine (cG _).mono ?_); rintro e w5 ⟨rfl, U5⟩; have B5 := bcell U5; have Z5 := U5.size; (try simp at Z5); (try rw [Nat.add_one_le_iff] at Z5))) | fail)
        have htb5 := Nat.lt_of_lt_of_le htb U5.size
        rw [hbd.out]
        with_reducible refine (cL _ (HW.out.upd U5).tree).mono ?_
        rintro e w6 ⟨rfl, U6⟩
        go_wp2_with fail
        with_reducible refine (cG2 _ ((HW.out.upd U5).upd U6).tree).mono ?_
        rintro e w7 ⟨⟨vv, rfl⟩, hP7⟩
        obtain ⟨vp7, vn7, vi7, hW7⟩ := ((HW.out.upd U5).upd U6).tr hP7
        go_wp2
        go_roundw
        case rel => exact ⟨k9, n + n1, vp7, vn7, vi7, m - 1, _, rfl, by go_num, HD9.out, hW7⟩
        case measure => simp [intOf]; omega
    · have e : n = L.length := by omega
      subst e
      have htot := hD.tot
      rw [List.drop_length, learnN_nil] at htot
      have HE : Hid (learnK k L = ⟨k1.set, k1.ps, k1.ps.length, -1⟩) := by unfold Hid learnK; rw [← htot, hD.set]
      have cY := fun wx hr => copyI_any k1 (.slice ap k1.ps.length cp) (w.heap.size + 2) wx hr (by omega)
      have hrd := RdP.of_own hW.tree.prs
      clear htot hD hW HW4 HW2 HD
      simp only [kV] at *
      go_wp2_with (go_at_call 40; (with_reducible refine (cY _ hrd).mono ?_); rintro e w5 ⟨v5, rfl, ho5, U5⟩; obtain ⟨a5, c5, rfl⟩ := ownsRow_shape ho5; obtain ⟨hRl, q0, q1, q2, q3, q4, q5⟩ := (HW.out.upd U5).res.cells; have hfr := box_free (HW.out.upd U5).res; have HO := Lib.hid ho5; clear ho5)
      refine bodyPost_ret (v := .tuple #[kV ⟨k1.set, k1.ps, k1.ps.length, -1⟩ (.slice a5 k1.ps.length c5), .int .i64 y]) (by simp [results, Tryz.results110, go_sem, hRl, q0, q1, q2, q3, q4, q5]) rfl ⟨_, _, by rw [HE.out], ?_, ?_⟩
      · rw [HE.out]
        have hs := HW.out.up.size
        have hs2 := U5.size
        have hs3 := (HW.out.res.cells).1
        refine ownsRow_base (base := w.heap.size + 2) ?_ (by omega)
        repeat (first | (with_reducible refine ownsRow_setne ?_ (by omega) _ _) | (with_reducible refine ownsRow_up ?_ (Up.alloc (Up.refl _) _)))
        with_reducible refine ownsRow_base HO.out ?_
        omega
      · have hUU := HW.out.up
        (repeat (first | with_reducible exact Up.refl _ | with_reducible assumption | with_reducible refine Up.set ?_ (by first | exact Nat.le_refl _ | (simp only []; omega) | (simp; omega)) _ | with_reducible refine Up.alloc ?_ _ | with_reducible refine Up.drew ?_ | refine Up.trans ?_ (by with_reducible assumption)))
set_option maxRecDepth 100000 in
set_option maxHeartbeats 4000000 in
theorem learnKI_any (k : KnD) (v : Value) (lo : Nat) (d : ByteArray) (w : World) (h : k.Ok) (hv : k.last = -1 → k.base = k.ps.length) (hr : RdP lo w v k.ps) (hd : d.size ≤ 1073741824) :
    Calls Tryz.prog 61  #[kV k v, .string d] w (fun e w' => if fitsB k.set d.data.toList then KnPost2 (learnK k d.data.toList) w e w' else Same (.tuple #[noKn, .bool false]) w e w') := by
  have cV := fun wx hr => kvI_any k v lo wx h hv hr
  obtain ⟨-, hlb, -, -⟩ := setOk_bd h.set
  have cF := fun wx => fitsI_any k.set d wx (by omega) hd
  have hrt := fun (wq : World) (hu : Up w wq) => hr.up hu
  have hlen := ba_len d
  cases hf : fitsB k.set d.data.toList
  · rw [hf] at cF
    simp only [Bool.false_eq_true, if_false]
    obtain ⟨a, cap, rfl, -, -, -, -⟩ := hr
    clear h hv hf
    simp only [kV] at *
    go_enter Tryz.func61, Tryz.ntmps61
    go_wp2_with (first | ((go_at_call 39; (with_reducible refine (cV _ (hrt _ (by (repeat (first | with_reducible exact Up.refl _ | with_reducible assumption | with_reducible refine Up.set ?_ (by first | exact Nat.le_refl _ | (simp only []; omega) | (simp; omega)) _ | with_reducible refine Up.alloc ?_ _ | with_reducible refine Up.drew ?_ | refine Up.trans ?_ (by with_reducible assumption)))))).mono ?_); rintro e w1 ⟨rfl, U1⟩; have B1 := bcell U1; have Z1 := U1.size; (try simp at Z1); (try rw [Nat.add_one_le_iff] at Z1)); have Y1 : w.heap.size < w1.heap.size := (by have := U1.size; simp at this; omega)) | ((go_at_call 42; (with_reducible refine (cF _).mono ?_); rintro e w2 ⟨rfl, U2⟩; have B2 := bcell U2; have Z2 := U2.size; (try simp at Z2); (try rw [Nat.add_one_le_iff] at Z2)); obtain ⟨hRl, q0, q1, q2, q3, q4, q5⟩ := KnAt.cells (b := w.heap.size + 1) (k := ⟨⟨0, 0, 0⟩, [], 0, 0⟩) (v := .slice none 0 0) (box_up (U1.trans U2) (alloc2 w _ _)); have hfr := box_free (box_up (U1.trans U2) (alloc2 w _ _))))
    obtain ⟨-, q0, q1, q2, q3, q4, q5⟩ := KnAt.cells (b := w.heap.size + 1) (k := ⟨⟨0, 0, 0⟩, [], 0, 0⟩) (v := .slice none 0 0) (box_up (U1.trans U2) (alloc2 w _ _))
    refine bodyPost_ret (v := .tuple #[noKn, .bool false]) (by simp [results, Tryz.results61, go_sem, q0, q1, q2, q3, q4, q5]) rfl ⟨rfl, ?_⟩
    (repeat (first | with_reducible exact Up.refl _ | with_reducible assumption | with_reducible refine Up.set ?_ (by first | exact Nat.le_refl _ | (simp only []; omega) | (simp; omega)) _ | with_reducible refine Up.alloc ?_ _ | with_reducible refine Up.drew ?_ | refine Up.trans ?_ (by with_reducible assumption)))
  · rw [hf] at cF
    simp only [if_true]
    obtain ⟨-, h2, h3⟩ := fitsB_lits hf
    have cL := fun wx hr => learnI_any k v lo d wx h hr (by omega) h3
    obtain ⟨a, cap, rfl, -, -, -, -⟩ := hr
    clear h hv hf h3
    generalize learnK k d.data.toList = kk at *
    simp only [kV] at *
    go_enter Tryz.func61, Tryz.ntmps61
    go_wp2_with (first | ((go_at_call 39; (with_reducible refine (cV _ (hrt _ (by (repeat (first | with_reducible exact Up.refl _ | with_reducible assumption | with_reducible refine Up.set ?_ (by first | exact Nat.le_refl _ | (simp only []; omega) | (simp; omega)) _ | with_reducible refine Up.alloc ?_ _ | with_reducible refine Up.drew ?_ | refine Up.trans ?_ (by with_reducible assumption)))))).mono ?_); rintro e w1 ⟨rfl, U1⟩; have B1 := bcell U1; have Z1 := U1.size; (try simp at Z1); (try rw [Nat.add_one_le_iff] at Z1)); have Y1 : w.heap.size < w1.heap.size := (by have := U1.size; simp at this; omega)) | (go_at_call 42; (with_reducible refine (cF _).mono ?_); rintro e w2 ⟨rfl, U2⟩; have B2 := bcell U2; have Z2 := U2.size; (try simp at Z2); (try rw [Nat.add_one_le_iff] at Z2)) | (go_at_call 110; (with_reducible refine (cL _ (hrt _ (by (repeat (first | with_reducible exact Up.refl _ | with_reducible assumption | with_reducible refine Up.set ?_ (by first | exact Nat.le_refl _ | (simp only []; omega) | (simp; omega)) _ | with_reducible refine Up.alloc ?_ _ | with_reducible refine Up.drew ?_ | refine Up.trans ?_ (by with_reducible assumption)))))).mono ?_); rintro e w3 ⟨v3, y3, rfl, ho3, U3⟩; obtain ⟨a3, c3, rfl⟩ := ownsRow_shape ho3; have B3 := bcell U3; obtain ⟨hRl, q0, q1, q2, q3, q4, q5⟩ := KnAt.cells (b := w.heap.size + 1) (k := ⟨⟨0, 0, 0⟩, [], 0, 0⟩) (v := .slice none 0 0) (box_up (U1.trans (U2.trans U3)) (alloc2 w _ _)); have hfr := box_free (box_up (U1.trans (U2.trans U3)) (alloc2 w _ _)); have HO := Lib.hid ho3; clear ho3))
    obtain ⟨hRl, q0, q1, q2, q3, q4, q5⟩ := KnAt.cells (b := w.heap.size + 1) (k := ⟨⟨0, 0, 0⟩, [], 0, 0⟩) (v := .slice none 0 0) (box_up (U1.trans (U2.trans U3)) (alloc2 w _ _))
    refine bodyPost_ret (v := .tuple #[kV kk (.slice a3 kk.ps.length c3), .bool true]) (by simp [results, Tryz.results61, go_sem, hRl, q0, q1, q2, q3, q4, q5]) rfl ⟨_, rfl, ?_, ?_⟩
    · have hs := (U1.trans U2).size
      simp at hs
      refine ownsRow_base (base := w.heap.size + 2) ?_ (by omega)
      repeat (first | (with_reducible refine ownsRow_setne ?_ (by omega) _ _) | (with_reducible refine ownsRow_up ?_ (Up.alloc (Up.refl _) _)))
      with_reducible refine ownsRow_base HO.out ?_
      omega
    · (repeat (first | with_reducible exact Up.refl _ | with_reducible assumption | with_reducible refine Up.set ?_ (by first | exact Nat.le_refl _ | (simp only []; omega) | (simp; omega)) _ | with_reducible refine Up.alloc ?_ _ | with_reducible refine Up.drew ?_ | refine Up.trans ?_ (by with_reducible assumption)))
set_option maxRecDepth 100000 in
set_option maxHeartbeats 4000000 in
theorem startWI_any (s : SetD) (d : ByteArray) (w : World) (hl : -9223372036854775808 ≤ s.lit ∧ s.lit ≤ 9223372036854775807) (hd : d.size ≤ 1073741824) :
    Calls Tryz.prog 19  #[setV s, .string d] w (fun e w' => if fitsB s d.data.toList then KnPost2 (learnK (startK s) d.data.toList) w e w' else Same (.tuple #[noKn, .bool false]) w e w') := by
  cases hs : setOk s
  · have hf : fitsB s d.data.toList = false := by unfold fitsB; rw [hs]; rfl
    rw [hf]
    simp only [Bool.false_eq_true, if_false]
    have cS := fun wx => startI_no s wx hl hs
    clear hs hf
    simp only [setV] at *
    go_enter Tryz.func19, Tryz.ntmps19
    go_wp2_with ((go_at_call 60; (with_reducible refine (cS _).mono ?_); rintro e w1 ⟨rfl, U1⟩; have B1 := bcell U1; have Z1 := U1.size; (try simp at Z1); (try rw [Nat.add_one_le_iff] at Z1)); have Y1 : w.heap.size < w1.heap.size := (by have := U1.size; simp at this; omega); obtain ⟨hRl, q0, q1, q2, q3, q4, q5⟩ := KnAt.cells (b := w.heap.size + 1) (k := ⟨⟨0, 0, 0⟩, [], 0, 0⟩) (v := .slice none 0 0) (box_up U1 (alloc2 w _ _)); have hfr := box_free (box_up U1 (alloc2 w _ _)))
    obtain ⟨hRl, q0, q1, q2, q3, q4, q5⟩ := KnAt.cells (b := w.heap.size + 1) (k := ⟨⟨0, 0, 0⟩, [], 0, 0⟩) (v := .slice none 0 0) (box_up U1 (alloc2 w _ _))
    refine bodyPost_ret (v := .tuple #[noKn, .bool false]) (by simp [results, Tryz.results19, go_sem, hRl, q0, q1, q2, q3, q4, q5]) rfl ⟨rfl, ?_⟩
    (repeat (first | with_reducible exact Up.refl _ | with_reducible assumption | with_reducible refine Up.set ?_ (by first | exact Nat.le_refl _ | (simp only []; omega) | (simp; omega)) _ | with_reducible refine Up.alloc ?_ _ | with_reducible refine Up.drew ?_ | refine Up.trans ?_ (by with_reducible assumption)))
  · have cS := fun wx => startI_any s wx hs
    have cL := fun wx hr => learnKI_any (startK s) (.slice none 0 0) wx.heap.size d wx (startK_ok hs) (fun _ => rfl) hr hd
    have hrd : ∀ wx : World, RdP wx.heap.size wx (.slice none 0 0) (startK s).ps := fun wx => ⟨none, 0, rfl, Nat.le_refl _, by unfold maxLen; omega, fun _ => ⟨rfl, rfl⟩, fun h => absurd h (Nat.lt_irrefl _)⟩
    have cL' := fun wx => cL wx (hrd wx)
    have e1 : (startK s).set = s := rfl
    rw [e1] at cL'
    clear cL hrd hs e1
    cases hf : fitsB s d.data.toList
    · rw [hf] at cL'
      simp only [Bool.false_eq_true, if_false] at cL' ⊢
      simp only [setV, kV, startK] at *
      clear hf
      go_enter Tryz.func19, Tryz.ntmps19
      go_wp2_with (first | (go_at_call 60; (with_reducible refine (cS _).mono ?_); rintro e w1 ⟨rfl, U1⟩; have B1 := bcell U1; have Y1 : w.heap.size < w1.heap.size := (by have := U1.size; simp at this; omega); obtain ⟨hRl, q0, q1, q2, q3, q4, q5⟩ := KnAt.cells (b := w.heap.size + 1) (k := ⟨⟨0, 0, 0⟩, [], 0, 0⟩) (v := .slice none 0 0) (box_up U1 (alloc2 w _ _)); have hfr := box_free (box_up U1 (alloc2 w _ _))) | ((go_at_call 61; (with_reducible refine (cL' _).mono ?_); rintro e w2 ⟨rfl, U2⟩; have B2 := bcell U2; have Z2 := U2.size; (try simp at Z2); (try rw [Nat.add_one_le_iff] at Z2)); obtain ⟨hRl, q0, q1, q2, q3, q4, q5⟩ := KnAt.cells (b := w.heap.size + 1) (k := ⟨⟨0, 0, 0⟩, [], 0, 0⟩) (v := .slice none 0 0) (box_up U1 (box_up (Up.refl _) (alloc2 w _ _)) |> fun h => box_up U2 (box_up (Up.alloc (Up.refl _) _) h)); have hfr := box_free (box_up U2 (box_up (Up.alloc (Up.refl _) _) (box_up U1 (alloc2 w _ _))))))
      obtain ⟨hRl, q0, q1, q2, q3, q4, q5⟩ := KnAt.cells (b := w.heap.size + 1) (k := ⟨⟨0, 0, 0⟩, [], 0, 0⟩) (v := .slice none 0 0) (box_up (U1.trans ((Up.alloc (Up.refl _) _).trans U2)) (alloc2 w _ _))
      refine bodyPost_ret (v := .tuple #[noKn, .bool false]) (by simp [results, Tryz.results19, go_sem, hRl, q0, q1, q2, q3, q4, q5]) rfl ⟨rfl, ?_⟩
      (repeat (first | with_reducible exact Up.refl _ | with_reducible assumption | with_reducible refine Up.set ?_ (by first | exact Nat.le_refl _ | (simp only []; omega) | (simp; omega)) _ | with_reducible refine Up.alloc ?_ _ | with_reducible refine Up.drew ?_ | refine Up.trans ?_ (by with_reducible assumption)))
    · rw [hf] at cL'
      simp only [if_true] at cL' ⊢
      clear hf
      have e2 : (startK s).ps = [] := rfl
      generalize learnK (startK s) d.data.toList = kk at *
      simp only [setV, kV, startK] at *
      go_enter Tryz.func19, Tryz.ntmps19
      go_wp2_with (first | (go_at_call 60; (with_reducible refine (cS _).mono ?_); rintro e w1 ⟨rfl, U1⟩; have B1 := bcell U1; have Y1 : w.heap.size < w1.heap.size := (by have := U1.size; simp at this; omega)) | (go_at_call 61; (with_reducible refine (cL' _).mono ?_); rintro e w3 ⟨v3, rfl, ho3, U3⟩; obtain ⟨a3, c3, rfl⟩ := ownsRow_shape ho3; obtain ⟨hRl, q0, q1, q2, q3, q4, q5⟩ := KnAt.cells (b := w.heap.size + 1) (k := ⟨⟨0, 0, 0⟩, [], 0, 0⟩) (v := .slice none 0 0) (box_up (U1.trans ((Up.alloc (Up.refl _) _).trans U3)) (alloc2 w _ _)); have hfr := box_free (box_up (U1.trans ((Up.alloc (Up.refl _) _).trans U3)) (alloc2 w _ _)); have HO := Lib.hid ho3; clear ho3))
      obtain ⟨hRl, q0, q1, q2, q3, q4, q5⟩ := KnAt.cells (b := w.heap.size + 1) (k := ⟨⟨0, 0, 0⟩, [], 0, 0⟩) (v := .slice none 0 0) (box_up (U1.trans ((Up.alloc (Up.refl _) _).trans U3)) (alloc2 w _ _))
      refine bodyPost_ret (v := .tuple #[kV kk (.slice a3 kk.ps.length c3), .bool true]) (by simp [results, Tryz.results19, go_sem, hRl, q0, q1, q2, q3, q4, q5]) rfl ⟨_, rfl, ?_, ?_⟩
      · have hs := U1.size
        simp at hs
        refine ownsRow_base (base := w.heap.size + 2) ?_ (by omega)
        repeat (with_reducible refine ownsRow_setne ?_ (by omega) _ _)
        exact ownsRow_base HO.out (by simp; omega)
      · (repeat (first | with_reducible exact Up.refl _ | with_reducible assumption | with_reducible refine Up.set ?_ (by first | exact Nat.le_refl _ | (simp only []; omega) | (simp; omega)) _ | with_reducible refine Up.alloc ?_ _ | with_reducible refine Up.drew ?_ | refine Up.trans ?_ (by with_reducible assumption)))
end Go.Proofs.YtgbakgaegldomaaGreat

/- Walks of the program's CompressWith, SealStream, makeBlock, BlockOf, and of the reference's SealStream. Conditions: the strings are no longer than 2^30 bytes. -/
namespace Go.Proofs.YtgbakgaegldomaaGreat
open Go Go.RowKit
set_option maxRecDepth 100000 in
set_option maxHeartbeats 4000000 in
theorem compWI_any (s : SetD) (dict d : ByteArray) (w : World) (hl : -9223372036854775808 ≤ s.lit ∧ s.lit ≤ 9223372036854775807) (hi : dict.size ≤ 1073741824) (hd : d.size ≤ 1073741824) :
    Calls Tryz.prog 23  #[setV s, .string dict, .string d] w (Same (optS (compW s dict.data.toList d.data.toList)) w) := by
  have cS := fun wx => startWI_any s dict wx hl hi
  unfold compW
  cases hf : fitsB s dict.data.toList
  · rw [hf] at cS
    simp only [Bool.false_eq_true, if_false] at cS ⊢
    unfold optS
    clear hf
    simp only [setV] at *
    go_enter Tryz.func23, Tryz.ntmps23
    go_wp2_with ((go_at_call 19; (with_reducible refine (cS _).mono ?_); rintro e w1 ⟨rfl, U1⟩; have B1 := bcell U1; have Z1 := U1.size; (try simp at Z1); (try rw [Nat.add_one_le_iff] at Z1)))
    go_ret2
    refine ⟨rfl, ?_⟩
    (repeat (first | with_reducible exact Up.refl _ | with_reducible assumption | with_reducible refine Up.set ?_ (by first | exact Nat.le_refl _ | (simp only []; omega) | (simp; omega)) _ | with_reducible refine Up.alloc ?_ _ | with_reducible refine Up.drew ?_ | refine Up.trans ?_ (by with_reducible assumption)))
  · rw [hf] at cS
    simp only [if_true] at cS ⊢
    obtain ⟨h1, h2, h3⟩ := fitsB_lits hf
    have hok : (learnK (startK s) dict.data.toList).Ok := learnK_ok (startK_ok h1) h3
    have cC := fun wx v hr => compI_any (learnK (startK s) dict.data.toList) v 0 d wx hok (fun _ => rfl) hr hd
    clear hf h1 h2 h3 hok
    generalize learnK (startK s) dict.data.toList = kk at *
    unfold optS at *
    generalize compO kk d.data.toList = co at *
    simp only [setV, kV] at *
    go_enter Tryz.func23, Tryz.ntmps23
    go_wp2_with (first | (go_at_call 19; (with_reducible refine (cS _).mono ?_); rintro e w1 ⟨v1, rfl, ho1, U1⟩; have B1 := bcell U1; have HR1 := Lib.hid ((RdP.of_own ho1).low (Nat.zero_le _)); obtain ⟨a1, c1, rfl⟩ := ownsRow_shape ho1; clear ho1) | (go_at_call 10; (with_reducible refine (cC _ _ (HR1.out.up (by (repeat (first | with_reducible exact Up.refl _ | with_reducible assumption | with_reducible refine Up.set ?_ (by first | exact Nat.le_refl _ | (simp only []; omega) | (simp; omega)) _ | with_reducible refine Up.alloc ?_ _ | with_reducible refine Up.drew ?_ | refine Up.trans ?_ (by with_reducible assumption)))))).mono ?_); rintro e w2 ⟨rfl, U2⟩; have B2 := bcell U2; have Z2 := U2.size; (try simp at Z2); (try rw [Nat.add_one_le_iff] at Z2)))
    go_ret2
    refine ⟨rfl, ?_⟩
    (repeat (first | with_reducible exact Up.refl _ | with_reducible assumption | with_reducible refine Up.set ?_ (by first | exact Nat.le_refl _ | (simp only []; omega) | (simp; omega)) _ | with_reducible refine Up.alloc ?_ _ | with_reducible refine Up.drew ?_ | refine Up.trans ?_ (by with_reducible assumption)))
theorem compL_len {k : KnD} {d : List UInt8} (h : k.Ok) (hl : ∀ b ∈ d, b.toNat < k.c) (hd : d.length ≤ 2000) : (compL k d).length ≤ 10000 := by
  obtain ⟨g1, g2, g3, g4, g5⟩ := walk_greedy h hl hd
  have g6 := greedy_tight h hl hd
  have g7 := packC_len10 k.set.ord (greedy k d) (walkN k (greedy k d) [] []).ws (fun x hx => ⟨by have := (g4 x hx).1; omega, (g4 x hx).2⟩)
  unfold compL
  rw [packL_length]; omega
theorem compW_len {s : SetD} {dict d c : List UInt8} (h : compW s dict d = some c) : c.length ≤ 10000 := by
  unfold compW at h
  split at h
  · next h1 =>
    obtain ⟨f1, f2, f3⟩ := fitsB_lits h1
    have hok : (learnK (startK s) dict).Ok := learnK_ok (startK_ok f1) f3
    unfold compO at h
    split at h
    · next h2 =>
      obtain ⟨e1, e2, e3⟩ := fitsB_lits h2
      cases h
      exact compL_len hok e3 e2
    · cases h
  · cases h
def sealO (s : SetD) (dict d : ByteArray) : Value := match compW s dict.data.toList d.data.toList with
  | some c => .tuple #[.string (two (sumOf dict) ++ bs c), .bool true]
  | none => .tuple #[.string ByteArray.empty, .bool false]
set_option maxRecDepth 100000 in
set_option maxHeartbeats 4000000 in
theorem sealS_any (s : SetD) (dict d : ByteArray) (w : World) (hi : dict.size ≤ 1073741824) (hd : d.size ≤ 1073741824) :
    Calls Tryz.prog 18  #[setV s, .string dict, .string d] w (Same (sealO s dict d) w) := by
  have cC := fun wx => compWS_any s dict d wx hi hd
  have cM := fun wx => sumS_any dict wx (by omega)
  have hsb := sumOf_bd dict
  have cT := fun wx => l4Two_any (sumOf dict) wx (by omega) (by omega)
  unfold sealO
  have hcl := @compW_len s dict.data.toList d.data.toList
  generalize compW s dict.data.toList d.data.toList = co at *
  generalize sumOf dict = so at *
  unfold optS at cC
  cases co with
  | none =>
    clear hcl
    simp only [Option.getD_none, Option.isSome_none, setV] at *
    go_enter Tryz.func18, Tryz.ntmps18
    go_wp2_with ((go_at_call 57; (with_reducible refine (cC _).mono ?_); rintro e w1 ⟨rfl, U1⟩; have B1 := bcell U1; have Z1 := U1.size; (try simp at Z1); (try rw [Nat.add_one_le_iff] at Z1)))
    go_ret2
    refine ⟨rfl, ?_⟩
    (repeat (first | with_reducible exact Up.refl _ | with_reducible assumption | with_reducible refine Up.set ?_ (by first | exact Nat.le_refl _ | (simp only []; omega) | (simp; omega)) _ | with_reducible refine Up.alloc ?_ _ | with_reducible refine Up.drew ?_ | refine Up.trans ?_ (by with_reducible assumption)))
  | some c =>
    have hcl2 := hcl rfl
    have hsz := bs_size c
    have hsz2 := two_size so
    clear hcl
    simp only [Option.getD_some, Option.isSome_some, setV] at *
    go_enter Tryz.func18, Tryz.ntmps18
    go_wp2_with (first | (go_at_call 57; (with_reducible refine (cC _).mono ?_); rintro e w1 ⟨rfl, U1⟩; have B1 := bcell U1; have Z1 := U1.size; (try simp at Z1); (try rw [Nat.add_one_le_iff] at Z1)) | (go_at_call 59; (with_reducible refine (cM _).mono ?_); rintro e w' ⟨rfl, rfl⟩) | (go_at_call 58; (with_reducible refine (cT _).mono ?_); rintro e w2 ⟨rfl, U2⟩; have B2 := bcell U2; have Z2 := U2.size; (try simp at Z2); (try rw [Nat.add_one_le_iff] at Z2)))
    go_ret2
    refine ⟨rfl, ?_⟩
    (repeat (first | with_reducible exact Up.refl _ | with_reducible assumption | with_reducible refine Up.set ?_ (by first | exact Nat.le_refl _ | (simp only []; omega) | (simp; omega)) _ | with_reducible refine Up.alloc ?_ _ | with_reducible refine Up.drew ?_ | refine Up.trans ?_ (by with_reducible assumption)))
set_option maxRecDepth 100000 in
set_option maxHeartbeats 4000000 in
theorem sealI_any (s : SetD) (dict d : ByteArray) (w : World) (hl : -9223372036854775808 ≤ s.lit ∧ s.lit ≤ 9223372036854775807) (hi : dict.size ≤ 1073741824) (hd : d.size ≤ 1073741824) :
    Calls Tryz.prog 17  #[setV s, .string dict, .string d] w (Same (sealO s dict d) w) := by
  have cC := fun wx => compWI_any s dict d wx hl hi hd
  have cM := fun wx => sumI_any dict wx (by omega)
  have hsb := sumOf_bd dict
  have cT := fun wx => twoBytes_any (sumOf dict) wx (by omega) (by omega)
  unfold sealO
  have hcl := @compW_len s dict.data.toList d.data.toList
  generalize compW s dict.data.toList d.data.toList = co at *
  generalize sumOf dict = so at *
  unfold optS at cC
  cases co with
  | none =>
    clear hcl
    simp only [Option.getD_none, Option.isSome_none, setV] at *
    go_enter Tryz.func17, Tryz.ntmps17
    go_wp2_with ((go_at_call 23; (with_reducible refine (cC _).mono ?_); rintro e w1 ⟨rfl, U1⟩; have B1 := bcell U1; have Z1 := U1.size; (try simp at Z1); (try rw [Nat.add_one_le_iff] at Z1)))
    go_ret2
    refine ⟨rfl, ?_⟩
    (repeat (first | with_reducible exact Up.refl _ | with_reducible assumption | with_reducible refine Up.set ?_ (by first | exact Nat.le_refl _ | (simp only []; omega) | (simp; omega)) _ | with_reducible refine Up.alloc ?_ _ | with_reducible refine Up.drew ?_ | refine Up.trans ?_ (by with_reducible assumption)))
  | some c =>
    have hcl2 := hcl rfl
    have hsz := bs_size c
    have hsz2 := two_size so
    clear hcl
    simp only [Option.getD_some, Option.isSome_some, setV] at *
    go_enter Tryz.func17, Tryz.ntmps17
    go_wp2_with (first | (go_at_call 23; (with_reducible refine (cC _).mono ?_); rintro e w1 ⟨rfl, U1⟩; have B1 := bcell U1; have Z1 := U1.size; (try simp at Z1); (try rw [Nat.add_one_le_iff] at Z1)) | (go_at_call 56; (with_reducible refine (cM _).mono ?_); rintro e w' ⟨rfl, rfl⟩) | (go_at_call 55; (with_reducible refine (cT _).mono ?_); rintro e w2 ⟨rfl, U2⟩; have B2 := bcell U2; have Z2 := U2.size; (try simp at Z2); (try rw [Nat.add_one_le_iff] at Z2)))
    go_ret2
    refine ⟨rfl, ?_⟩
    (repeat (first | with_reducible exact Up.refl _ | with_reducible assumption | with_reducible refine Up.set ?_ (by first | exact Nat.le_refl _ | (simp only []; omega) | (simp; omega)) _ | with_reducible refine Up.alloc ?_ _ | with_reducible refine Up.drew ?_ | refine Up.trans ?_ (by with_reducible assumption)))
end Go.Proofs.YtgbakgaegldomaaGreat

