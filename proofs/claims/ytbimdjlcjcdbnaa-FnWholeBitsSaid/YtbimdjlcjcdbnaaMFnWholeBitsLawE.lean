/- Texts joined into one: the walks and laws that the last text leans on. Conditions: as each says. -/
import Derived.Test.YtbimdjlcjcdbnaaMFnWholeBitsLawD
import Derived.Test.YtbimdjlcjcdbnaaWd
import Derived.Test.YtbimdjlcjcdbnaaComp
import Derived.Test.YtbimdjlcjcdbnaaKvG
import Derived.Test.YtbimdjlcjcdbnaaBlkOf
import Derived.Test.YtbimdjlcjcdbnaaMFnWholeBitsLawB
import Derived.Test.YtbimdjlcjcdbnaaGw2
import Derived.Test.YtbimdjlcjcdbnaaBp
import Derived.Test.YtbimdjlcjcdbnaaFo
import Derived.Test.YtbimdjlcjcdbnaaCopy
import Derived.Test.YtbimdjlcjcdbnaaStartW
import Derived.Test.YtbimdjlcjcdbnaaStep

/- Walks of the program's PackCodes, GreedyCodes, Compress. Conditions: what is known is valid and can be read. -/
namespace Go.Proofs.Ytbimdjlcjcdbnaa
set_option linter.unusedVariables false
set_option linter.unusedSimpArgs false
open Go Go.RowKit

theorem packC_len10 (o : Int) : ∀ (xs ws : List Int), (∀ w ∈ ws, 0 ≤ w ∧ w ≤ 10) → (packC o xs ws).length ≤ 10 * ws.length
  | [], ws, _ => by simp [packC]
  | _ :: _, [], _ => by simp [packC]
  | x :: xs, w :: ws, h => by
    simp only [packC, List.length_append, codeL_length, List.length_cons]
    have h1 := h w (List.mem_cons_self ..)
    have h2 := packC_len10 o xs ws fun v hv => h v (List.mem_cons_of_mem _ hv)
    omega

set_option maxRecDepth 100000 in
set_option maxHeartbeats 1000000 in
theorem packBI_any (o : Int) (s : ByteArray) (w : World) (ho : o = 0 ∨ o = 1) (hb : isBits s.data.toList) (hs : s.size ≤ 32000) :
    Calls Try.prog 57  #[.int .i64 o, .string s] w (Same (.tuple #[.string (bs (packL o s.data.toList)), .bool true]) w) := by
  have cO := fun w => orderI_any o w
  have cV := fun w => bitsVI_any s w hb hs
  have cP := fun w => packI_any o s w ho hb (by omega)
  have ho1 : (o == 0 || o == 1) = true := by rcases ho with rfl | rfl <;> rfl
  rw [ho1] at cO
  clear hb ho ho1
  go_enter Try.func57, Try.ntmps57
  go_wp2_with (first | (go_at_call 42; (with_reducible refine (cO _).mono ?_); rintro e w' ⟨rfl, rfl⟩) | (go_at_call 43; (with_reducible refine (cV _).mono ?_); rintro e w' ⟨rfl, rfl⟩) | (go_at_call 93; (with_reducible refine (cP _).mono ?_); rintro e w3 ⟨rfl, U3⟩; have B3 := bcell U3; have Z3 := U3.size; (try simp at Z3); (try rw [Nat.add_one_le_iff] at Z3)))
  go_ret2
  exact ⟨rfl, U3⟩

theorem nil_row {w : World} {base : Nat} {e : TypeId} {size n c : Nat} {a : Option Addr} {xs : List Value} (h : w.ownsRow base e size (.slice a n c) n xs) : a = none → n = 0 ∧ c = 0 := fun ha => by
  subst ha
  rcases h.2 with ⟨e1, _⟩ | ⟨g, cp, cur, e1, _⟩
  · simpa using e1
  · simp at e1
theorem clipI_any (a : Option Addr) (n c : Nat) (w : World) (h : n ≤ c) (hc : c ≤ 9223372036854775807) (ha : a = none → n = 0 ∧ c = 0) :
    Calls Try.prog 37 #[.slice a n c] w (fun e w' => e = .returned (.slice a n n) ∧ w = w') := by
  cases a with
  | none =>
    obtain ⟨h1, h2⟩ := ha rfl
    subst h1; subst h2
    go_enter Try.func37, Try.ntmps37
    go_wp2
    go_ret
    exact ⟨rfl, rfl⟩
  | some ad =>
    clear ha
    go_enter Try.func37, Try.ntmps37
    go_wp2
    go_ret
    exact ⟨rfl, rfl⟩

def RelPc (o : Int) (codes ws : List Int) (a0 : World) (out i : Value) (wr : World) : Prop := ∃ n : Nat, i = .int .i64 n ∧ n ≤ codes.length ∧ ownU wr a0.heap.size out (packC o (codes.take n) (ws.take n)) ∧ Up a0 wr

set_option maxRecDepth 100000 in
set_option maxHeartbeats 8000000 in
theorem packCI_any (k : KnD) (v : Value) (lo : Nat) (codes : List Int) (vc : Value) (lc : Nat) (w : World) (h : k.Ok) (hv : k.last = -1 → k.base = k.ps.length) (hr : RdP lo w v k.ps) (hc : RdI lc w vc codes) (hl : codes.length ≤ 3100) (hT : (walkN k codes [] []).ok = true) (hD : (walkN k codes [] []).data.length ≤ 2000)
    (hw : (walkN k codes [] []).ws.length = codes.length) (hcb : ∀ x ∈ codes, 0 ≤ x ∧ x ≤ 1048576) (hwb : ∀ x ∈ (walkN k codes [] []).ws, 0 ≤ x ∧ x ≤ 10) :
    Calls Try.prog 29  #[kV k v, vc] w (Same (.tuple #[.string (bs (packL k.set.ord (packC k.set.ord codes (walkN k codes [] []).ws))), .bool true]) w) := by
  have cW := fun wx hr hc => walkI_any k v lo codes vc lc wx h hv hr hc hl hT hD
  have hrt := fun (wq : World) (hu : Up w wq) => hr.up hu
  have hct := fun (wq : World) (hu : Up w wq) => hc.up hu
  have ho := (setOk_bd h.set).1
  obtain ⟨a, cap, rfl, -, -, -, -⟩ := hr
  obtain ⟨ac, cc, rfl, hcc1, hcc2, -⟩ := id hc
  unfold maxLen at hcc2
  have hpl := packC_len10 k.set.ord codes _ hwb
  have hib := isBits_packC k.set.ord codes (walkN k codes [] []).ws
  clear hT hD
  generalize walkN k codes [] [] = T at *
  have hwl : T.ws.length ≤ 3100 := by omega
  have cP := fun wx => packBI_any k.set.ord (bs (packC k.set.ord codes T.ws)) wx ho (by rw [bs_data]; exact hib) (by rw [bs_size]; omega)
  rw [bs_data] at cP
  have HW := Lib.hid hw
  have HCB := Lib.hid hcb
  have HWB := Lib.hid hwb
  clear h hv hw hcb hwb hib
  simp only [kV] at *
  go_enter Try.func29, Try.ntmps29
  go_wp2_with (go_at_call 55; (with_reducible refine (cW _ (hrt _ (by (repeat (first | with_reducible exact Up.refl _ | with_reducible assumption | with_reducible refine Up.set ?_ (by first | exact Nat.le_refl _ | (simp only []; omega) | (simp; omega)) _ | with_reducible refine Up.alloc ?_ _ | with_reducible refine Up.drew ?_ | refine Up.trans ?_ (by with_reducible assumption))))) (hct _ (by (repeat (first | with_reducible exact Up.refl _ | with_reducible assumption | with_reducible refine Up.set ?_ (by first | exact Nat.le_refl _ | (simp only []; omega) | (simp; omega)) _ | with_reducible refine Up.alloc ?_ _ | with_reducible refine Up.drew ?_ | refine Up.trans ?_ (by with_reducible assumption)))))).mono ?_); rintro e w1 ⟨vw, rfl, ho1, U1⟩; obtain ⟨aw, cw, rfl⟩ := ownsRow_shape ho1; have B1 := bcell U1; have HO1 := Lib.hid ho1; clear ho1)
  have hU1 : Up w w1 := by (repeat (first | with_reducible exact Up.refl _ | with_reducible assumption | with_reducible refine Up.set ?_ (by first | exact Nat.le_refl _ | (simp only []; omega) | (simp; omega)) _ | with_reducible refine Up.alloc ?_ _ | with_reducible refine Up.drew ?_ | refine Up.trans ?_ (by with_reducible assumption)))
  have HK1 : KnAt w.heap.size k (.slice a k.ps.length cap) w1 := box_up U1 (MapKept.heap_alloc w _).1
  have HK := Lib.hid HK1
  clear hrt HK1 U1 B1 cW
  go_loopw [9, 23] (fun out i wr => RelPc k.set.ord codes T.ws w1 out i wr) (fun _ i _ => codes.length - (intOf i).toNat)
  case atStart => exact ⟨0, rfl, Nat.zero_le _, World.ownsRow_nil _ _ _ _, Up.refl _⟩
  case round =>
    obtain ⟨n, rfl, hle, hown, hup⟩ := hrel
    have hdl : (packC k.set.ord (codes.take n) (T.ws.take n)).length ≤ 131072 := by
      have := packC_len10 k.set.ord (codes.take n) (T.ws.take n) (fun x hx => HWB.out x (List.mem_of_mem_take hx))
      rw [List.length_take] at this
      omega
    obtain ⟨-, r0, r1, r2, r3, r4, r5⟩ := (HK.out.up hup).cells
    obtain ⟨ad, cd, rfl⟩ := ownsRow_shape hown
    have HOW := Lib.hid hown
    have HUP := Lib.hid hup
    by_cases hlt : n < codes.length
    · have hlt2 : n < T.ws.length := by have := HW.out; omega
      obtain ⟨bc, oc, rfl, hbc1, hbc2, -, -, -, -⟩ := RdI.at (hct _ (hU1.trans hup)) hlt
      obtain ⟨bw, ow, rfl, hbw1, hbw2, -, hbw4, hbw5, -⟩ := RdI.at (RdI.of_own (ownsRow_up HO1.out hup)) hlt2
      have hb := HCB.out _ (List.getElem_mem hlt)
      have hb2 := HWB.out _ (List.getElem_mem hlt2)
      obtain ⟨xn, hxn⟩ := Int.eq_ofNat_of_zero_le hb.1
      obtain ⟨wn, hwn⟩ := Int.eq_ofNat_of_zero_le hb2.1
      have cB := fun wq hu hown => bitsI_any w1 k.set.ord xn wn (.slice ad (packC k.set.ord (codes.take n) (T.ws.take n)).length cd) (packC k.set.ord (codes.take n) (T.ws.take n)) wq ho (by omega) (by omega) (by omega) hu hown
      have HS : Hid (packC k.set.ord (codes.take (n + 1)) (T.ws.take (n + 1)) = packC k.set.ord (codes.take n) (T.ws.take n) ++ codeL k.set.ord xn wn) := by
        unfold Hid
        rw [packC_take k.set.ord HW.out.symm hlt, hxn, hwn]; rfl
      rw [hxn] at hbc2
      rw [hwn] at hbw2
      unfold maxLen at hbw5
      generalize packC k.set.ord (codes.take n) (T.ws.take n) = dn at *
      clear hb hb2 hxn hwn hown hup
      go_wp2
      refine wp_region_upR 9 (by kernel_rfl) (by kernel_rfl) ?_
      simp only [List.take, List.drop]
      repeat (refine wpUp_step (fun K hK => ?_); go_simp; (try simp only [↓IntWalk.iteOmega]); first
        | (refine hK _ _ ?_; clear hK K)
        | (apply stepU_c
           · intro wq hwq; (have hbq := bcell hwq; (repeat (first | refine fills_no (by rfl) ?_ | refine fills_yes (by rfl) (fun vq hvq => ?_))); simp only [List.filter_nil, fills]; unfold upAt; (try ((obtain ⟨-, r0, r1, r2, r3, r4, r5⟩ := (HK.out.up (HUP.out.trans hwq)).cells; have hbw3 := (hwq.cell (p := ⟨bw, ow + n, none⟩) hbw1).trans hbw2))); go_simp; (try go_bits); (try simp only [↓IntWalk.iteOmega]); (try (rw [dif_pos (by omega)]; go_simp; try go_bits)); first | exact upOut_value)
           go_simp; refine hK _ _ ?_; clear hK K))
      refine wpUp_nil (fun wq hwq => ?_)
      simp only [fills]
      go_wp2_with fail
      with_reducible refine (cB _ (HUP.out.trans hwq) (ownsRow_up HOW.out hwq)).mono ?_
      rintro e w5 ⟨v5, rfl, ho5, hU5⟩
      obtain ⟨a5, c5, rfl⟩ := ownsRow_shape (ownsRow_n2 (n' := dn.length + (codeL k.set.ord xn wn).length) ho5 (by simp))
      have HO5 := Lib.hid ho5
      clear ho5
      go_wp2
      go_roundw
      case rel => exact ⟨n + 1, by go_num, by omega, by rw [HS.out]; exact HO5.out, hU5⟩
      case measure => simp [intOf]; omega
    · have e : n = codes.length := by omega
      subst e
      have ht1 : codes.take codes.length = codes := List.take_length
      have ht2 : T.ws.take codes.length = T.ws := by rw [← HW.out]; exact List.take_length
      rw [ht1, ht2] at hown hdl ⊢
      have cv := conv_any hown rfl
      clear hown ht1 ht2 HOW
      generalize packC k.set.ord codes T.ws = dn at *
      go_wp2_with ((go_at_call 57; (with_reducible refine (cP _).mono ?_); rintro e w5 ⟨rfl, U5⟩; have B5 := bcell U5; have Z5 := U5.size; (try simp at Z5); (try rw [Nat.add_one_le_iff] at Z5)))
      go_ret2
      exact ⟨rfl, hU1.trans (hup.trans U5)⟩

/-- What GreedyCodes gives. -/
def GcPost (l : List Int) (w : World) (e : Ending) (w' : World) : Prop := ∃ v, e = .returned (.tuple #[v, .bool true]) ∧ RdI 0 w' v l ∧ Up w w'

set_option maxRecDepth 100000 in
set_option maxHeartbeats 4000000 in
theorem gcodesI_any (k : KnD) (v : Value) (lo : Nat) (d : ByteArray) (w : World) (h : k.Ok) (hv : k.last = -1 → k.base = k.ps.length) (hr : RdP lo w v k.ps) (hd : d.size ≤ 1073741824) :
    Calls Try.prog 16  #[kV k v, .string d] w (fun e w' => if fitsB k.set d.data.toList then GcPost (greedy k d.data.toList) w e w' else Same (.tuple #[.slice none 0 0, .bool false]) w e w') := by
  have cV := fun wx hr => kvI_any k v lo wx h hv hr
  obtain ⟨-, hlb, -, -⟩ := setOk_bd h.set
  have cF := fun wx => fitsI_any k.set d wx (by omega) hd
  have hrt := fun (wq : World) (hu : Up w wq) => hr.up hu
  have hlen := ba_len d
  cases hf : fitsB k.set d.data.toList
  · rw [hf] at cF
    simp only [Bool.false_eq_true, if_false]
    obtain ⟨a, cap, rfl, -, -, -, -⟩ := hr
    clear h hv hf
    simp only [kV] at *
    go_enter Try.func16, Try.ntmps16
    go_wp2_with (first | (go_at_call 35; (with_reducible refine (cV _ (hrt _ (by (repeat (first | with_reducible exact Up.refl _ | with_reducible assumption | with_reducible refine Up.set ?_ (by first | exact Nat.le_refl _ | (simp only []; omega) | (simp; omega)) _ | with_reducible refine Up.alloc ?_ _ | with_reducible refine Up.drew ?_ | refine Up.trans ?_ (by with_reducible assumption)))))).mono ?_); rintro e w1 ⟨rfl, U1⟩; have B1 := bcell U1; have Z1 := U1.size; (try simp at Z1); (try rw [Nat.add_one_le_iff] at Z1)) | (go_at_call 36; (with_reducible refine (cF _).mono ?_); rintro e w2 ⟨rfl, U2⟩; have B2 := bcell U2; have Z2 := U2.size; (try simp at Z2); (try rw [Nat.add_one_le_iff] at Z2)))
    go_ret2
    refine ⟨rfl, ?_⟩
    (repeat (first | with_reducible exact Up.refl _ | with_reducible assumption | with_reducible refine Up.set ?_ (by first | exact Nat.le_refl _ | (simp only []; omega) | (simp; omega)) _ | with_reducible refine Up.alloc ?_ _ | with_reducible refine Up.drew ?_ | refine Up.trans ?_ (by with_reducible assumption)))
  · rw [hf] at cF
    simp only [if_true]
    obtain ⟨-, h2, h3⟩ := fitsB_lits hf
    have cG := fun wx hr => greedy_any k v lo d wx h hr (by omega) h3
    obtain ⟨a, cap, rfl, -, -, -, -⟩ := hr
    clear h hv hf h3
    generalize greedy k d.data.toList = codes at *
    simp only [kV] at *
    go_enter Try.func16, Try.ntmps16
    go_wp2_with (first | (go_at_call 35; (with_reducible refine (cV _ (hrt _ (by (repeat (first | with_reducible exact Up.refl _ | with_reducible assumption | with_reducible refine Up.set ?_ (by first | exact Nat.le_refl _ | (simp only []; omega) | (simp; omega)) _ | with_reducible refine Up.alloc ?_ _ | with_reducible refine Up.drew ?_ | refine Up.trans ?_ (by with_reducible assumption)))))).mono ?_); rintro e w1 ⟨rfl, U1⟩; have B1 := bcell U1; have Z1 := U1.size; (try simp at Z1); (try rw [Nat.add_one_le_iff] at Z1)) | (go_at_call 36; (with_reducible refine (cF _).mono ?_); rintro e w2 ⟨rfl, U2⟩; have B2 := bcell U2; have Z2 := U2.size; (try simp at Z2); (try rw [Nat.add_one_le_iff] at Z2)) | (go_at_call 38; (with_reducible refine (cG _ (hrt _ (by (repeat (first | with_reducible exact Up.refl _ | with_reducible assumption | with_reducible refine Up.set ?_ (by first | exact Nat.le_refl _ | (simp only []; omega) | (simp; omega)) _ | with_reducible refine Up.alloc ?_ _ | with_reducible refine Up.drew ?_ | refine Up.trans ?_ (by with_reducible assumption)))))).mono ?_); rintro e w3 ⟨v3, rfl, ho3, U3⟩; have hrd3 := RdI.of_own ho3; obtain ⟨a3, c3, rfl⟩ := ownsRow_shape ho3; have hcp3 := ownsRow_cap ho3; have hn3 := nil_row ho3; have HRD := Lib.hid hrd3; clear hrd3 ho3) | (go_at_call 37; (with_reducible refine (clipI_any _ _ _ _ hcp3.1 hcp3.2 hn3).mono ?_); rintro e w' ⟨rfl, rfl⟩))
    go_ret2
    refine ⟨_, rfl, ?_, by (repeat (first | with_reducible exact Up.refl _ | with_reducible assumption | with_reducible refine Up.set ?_ (by first | exact Nat.le_refl _ | (simp only []; omega) | (simp; omega)) _ | with_reducible refine Up.alloc ?_ _ | with_reducible refine Up.drew ?_ | refine Up.trans ?_ (by with_reducible assumption)))⟩
    obtain ⟨a', cap', e1, e2, e3, e4⟩ := HRD.out
    cases e1
    exact ⟨_, _, rfl, Nat.le_refl _, by omega, fun hp => by
      obtain ⟨b, off, f1, f2, f3, f4⟩ := e4 hp
      exact ⟨b, off, f1, Nat.zero_le _, f3, f4⟩⟩

set_option maxRecDepth 100000 in
set_option maxHeartbeats 4000000 in
theorem compI_any (k : KnD) (v : Value) (lo : Nat) (d : ByteArray) (w : World) (h : k.Ok) (hv : k.last = -1 → k.base = k.ps.length) (hr : RdP lo w v k.ps) (hd : d.size ≤ 1073741824) :
    Calls Try.prog 11  #[kV k v, .string d] w (Same (optS (compO k d.data.toList)) w) := by
  have cG := fun wx hr => gcodesI_any k v lo d wx h hv hr hd
  have hrt := fun (wq : World) (hu : Up w wq) => hr.up hu
  have hlen := ba_len d
  unfold compO optS
  cases hf : fitsB k.set d.data.toList
  · rw [hf] at cG
    simp only [Bool.false_eq_true, if_false] at cG ⊢
    obtain ⟨a, cap, rfl, -, -, -, -⟩ := hr
    clear h hv hf
    simp only [kV] at *
    go_enter Try.func11, Try.ntmps11
    go_wp2_with ((go_at_call 16; (with_reducible refine (cG _ (hrt _ (by (repeat (first | with_reducible exact Up.refl _ | with_reducible assumption | with_reducible refine Up.set ?_ (by first | exact Nat.le_refl _ | (simp only []; omega) | (simp; omega)) _ | with_reducible refine Up.alloc ?_ _ | with_reducible refine Up.drew ?_ | refine Up.trans ?_ (by with_reducible assumption)))))).mono ?_); rintro e w1 ⟨rfl, U1⟩; have B1 := bcell U1; have Z1 := U1.size; (try simp at Z1); (try rw [Nat.add_one_le_iff] at Z1)))
    go_ret2
    refine ⟨rfl, ?_⟩
    (repeat (first | with_reducible exact Up.refl _ | with_reducible assumption | with_reducible refine Up.set ?_ (by first | exact Nat.le_refl _ | (simp only []; omega) | (simp; omega)) _ | with_reducible refine Up.alloc ?_ _ | with_reducible refine Up.drew ?_ | refine Up.trans ?_ (by with_reducible assumption)))
  · rw [hf] at cG
    simp only [if_true] at cG ⊢
    obtain ⟨-, h2, h3⟩ := fitsB_lits hf
    obtain ⟨g1, g2, g3, g4, g5⟩ := walk_greedy h h3 (by omega)
    have g6 := greedy_tight h h3 (by omega)
    have cP := fun wx vc hr hc => packCI_any k v lo (greedy k d.data.toList) vc 0 wx h hv hr hc (by omega) g3 (by rw [g2]; omega) g1 (fun x hx => ⟨(g5 x hx).1, by have := (g5 x hx).2; omega⟩) (fun x hx => ⟨by have := (g4 x hx).1; omega, (g4 x hx).2⟩)
    have HE : Hid (compL k d.data.toList = packL k.set.ord (packC k.set.ord (greedy k d.data.toList) (walkN k (greedy k d.data.toList) [] []).ws)) := rfl
    simp only [Option.getD_some, Option.isSome_some]
    rw [HE.out]
    generalize packL k.set.ord (packC k.set.ord (greedy k d.data.toList) (walkN k (greedy k d.data.toList) [] []).ws) = cl at *
    clear g1 g2 g3 g4 g5 g6 HE hf h3
    generalize greedy k d.data.toList = codes at *
    obtain ⟨a, cap, rfl, -, -, -, -⟩ := hr
    clear h hv
    simp only [kV] at *
    go_enter Try.func11, Try.ntmps11
    go_wp2_with (first | (go_at_call 16; (with_reducible refine (cG _ (hrt _ (by (repeat (first | with_reducible exact Up.refl _ | with_reducible assumption | with_reducible refine Up.set ?_ (by first | exact Nat.le_refl _ | (simp only []; omega) | (simp; omega)) _ | with_reducible refine Up.alloc ?_ _ | with_reducible refine Up.drew ?_ | refine Up.trans ?_ (by with_reducible assumption)))))).mono ?_); rintro e w1 ⟨v1, rfl, hr1, U1⟩; have B1 := bcell U1; have HR1 := Lib.hid hr1; obtain ⟨a1, c1, rfl, -, -, -⟩ := hr1) | (go_at_call 29; (with_reducible refine (cP _ _ (hrt _ (by (repeat (first | with_reducible exact Up.refl _ | with_reducible assumption | with_reducible refine Up.set ?_ (by first | exact Nat.le_refl _ | (simp only []; omega) | (simp; omega)) _ | with_reducible refine Up.alloc ?_ _ | with_reducible refine Up.drew ?_ | refine Up.trans ?_ (by with_reducible assumption))))) HR1.out).mono ?_); rintro e w2 ⟨rfl, U2⟩; have B2 := bcell U2; have Z2 := U2.size; (try simp at Z2); (try rw [Nat.add_one_le_iff] at Z2)))
    go_ret2
    refine ⟨rfl, ?_⟩
    (repeat (first | with_reducible exact Up.refl _ | with_reducible assumption | with_reducible refine Up.set ?_ (by first | exact Nat.le_refl _ | (simp only []; omega) | (simp; omega)) _ | with_reducible refine Up.alloc ?_ _ | with_reducible refine Up.drew ?_ | refine Up.trans ?_ (by with_reducible assumption)))

end Go.Proofs.Ytbimdjlcjcdbnaa

/- Walks of GreedyCodes and Compress for what is known and not valid. Conditions: the pairs can be read. -/
namespace Go.Proofs.Ytbimdjlcjcdbnaa
set_option linter.unusedVariables false
set_option linter.unusedSimpArgs false
open Go Go.RowKit

set_option maxRecDepth 100000 in
set_option maxHeartbeats 4000000 in
theorem gcodesI_no (k : KnD) (v : Value) (lo : Nat) (d : ByteArray) (w : World) (h : validK k = false) (hl : -9223372036854775808 ≤ k.set.lit ∧ k.set.lit ≤ 9223372036854775807) (hr : RdP lo w v k.ps) (hps : k.ps.length ≤ 1073741824) :
    Calls Try.prog 16  #[kV k v, .string d] w (Same (.tuple #[.slice none 0 0, .bool false]) w) := by
  have cV := fun wx hr => kvI_gen k v lo wx hl hr hps
  rw [h] at cV
  have hrt := fun (wq : World) (hu : Up w wq) => hr.up hu
  obtain ⟨a, cap, rfl, -, -, -, -⟩ := hr
  clear h
  simp only [kV] at *
  go_enter Try.func16, Try.ntmps16
  go_wp2_with ((go_at_call 35; (with_reducible refine (cV _ (hrt _ (by (repeat (first | with_reducible exact Up.refl _ | with_reducible assumption | with_reducible refine Up.set ?_ (by first | exact Nat.le_refl _ | (simp only []; omega) | (simp; omega)) _ | with_reducible refine Up.alloc ?_ _ | with_reducible refine Up.drew ?_ | refine Up.trans ?_ (by with_reducible assumption)))))).mono ?_); rintro e w1 ⟨rfl, U1⟩; have B1 := bcell U1; have Z1 := U1.size; (try simp at Z1); (try rw [Nat.add_one_le_iff] at Z1)))
  go_ret2
  refine ⟨rfl, ?_⟩
  (repeat (first | with_reducible exact Up.refl _ | with_reducible assumption | with_reducible refine Up.set ?_ (by first | exact Nat.le_refl _ | (simp only []; omega) | (simp; omega)) _ | with_reducible refine Up.alloc ?_ _ | with_reducible refine Up.drew ?_ | refine Up.trans ?_ (by with_reducible assumption)))

set_option maxRecDepth 100000 in
set_option maxHeartbeats 4000000 in
theorem compI_no (k : KnD) (v : Value) (lo : Nat) (d : ByteArray) (w : World) (h : validK k = false) (hl : -9223372036854775808 ≤ k.set.lit ∧ k.set.lit ≤ 9223372036854775807) (hr : RdP lo w v k.ps) (hps : k.ps.length ≤ 1073741824) :
    Calls Try.prog 11  #[kV k v, .string d] w (Same (optS none) w) := by
  have cG := fun wx hr => gcodesI_no k v lo d wx h hl hr hps
  have hrt := fun (wq : World) (hu : Up w wq) => hr.up hu
  rw [optS_none]
  obtain ⟨a, cap, rfl, -, -, -, -⟩ := hr
  clear h
  simp only [kV] at *
  go_enter Try.func11, Try.ntmps11
  go_wp2_with ((go_at_call 16; (with_reducible refine (cG _ (hrt _ (by (repeat (first | with_reducible exact Up.refl _ | with_reducible assumption | with_reducible refine Up.set ?_ (by first | exact Nat.le_refl _ | (simp only []; omega) | (simp; omega)) _ | with_reducible refine Up.alloc ?_ _ | with_reducible refine Up.drew ?_ | refine Up.trans ?_ (by with_reducible assumption)))))).mono ?_); rintro e w1 ⟨rfl, U1⟩; have B1 := bcell U1; have Z1 := U1.size; (try simp at Z1); (try rw [Nat.add_one_le_iff] at Z1)))
  go_ret2
  refine ⟨rfl, ?_⟩
  (repeat (first | with_reducible exact Up.refl _ | with_reducible assumption | with_reducible refine Up.set ?_ (by first | exact Nat.le_refl _ | (simp only []; omega) | (simp; omega)) _ | with_reducible refine Up.alloc ?_ _ | with_reducible refine Up.drew ?_ | refine Up.trans ?_ (by with_reducible assumption)))

set_option maxRecDepth 100000 in
set_option maxHeartbeats 4000000 in
theorem compS_no (k : KnD) (v : Value) (lo : Nat) (d : ByteArray) (w : World) (h : validK k = false) (hr : RdP lo w v k.ps) (hps : k.ps.length ≤ 1073741824) :
    Calls Try.prog 14  #[kV k v, .string d] w (Same (optS none) w) := by
  have cV := fun wx hr => kvS_gen k v lo wx hr hps
  rw [h] at cV
  have hrt := fun (wq : World) (hu : Up w wq) => hr.up hu
  rw [optS_none]
  obtain ⟨a, cap, rfl, -, -, -, -⟩ := hr
  clear h
  simp only [kV] at *
  go_enter Try.func14, Try.ntmps14
  go_wp2_with ((go_at_call 31; (with_reducible refine (cV _ (hrt _ (by (repeat (first | with_reducible exact Up.refl _ | with_reducible assumption | with_reducible refine Up.set ?_ (by first | exact Nat.le_refl _ | (simp only []; omega) | (simp; omega)) _ | with_reducible refine Up.alloc ?_ _ | with_reducible refine Up.drew ?_ | refine Up.trans ?_ (by with_reducible assumption)))))).mono ?_); rintro e w1 ⟨rfl, U1⟩; have B1 := bcell U1; have Z1 := U1.size; (try simp at Z1); (try rw [Nat.add_one_le_iff] at Z1)))
  go_ret2
  refine ⟨rfl, ?_⟩
  (repeat (first | with_reducible exact Up.refl _ | with_reducible assumption | with_reducible refine Up.set ?_ (by first | exact Nat.le_refl _ | (simp only []; omega) | (simp; omega)) _ | with_reducible refine Up.alloc ?_ _ | with_reducible refine Up.drew ?_ | refine Up.trans ?_ (by with_reducible assumption)))

end Go.Proofs.Ytbimdjlcjcdbnaa

/- Compress of both sides for what is known of any kind. Conditions: the pairs can be read, the setting's number of literals is a number of 64 bits. -/
namespace Go.Proofs.Ytbimdjlcjcdbnaa
set_option linter.unusedVariables false
set_option linter.unusedSimpArgs false
open Go Go.RowKit

/-- The stream of data, if what is known is valid. -/
def compG (k : KnD) (d : List UInt8) : Option (List UInt8) := if validK k then compO k d else none
theorem compG_none {k : KnD} {d : List UInt8} (h : (validK k && fitsB k.set d) = false) : compG k d = none := by
  unfold compG compO
  cases h1 : validK k
  · rfl
  · rw [h1, Bool.true_and] at h
    rw [h]; rfl
theorem compG_some {k : KnD} {d : List UInt8} (h1 : validK k = true) (h2 : fitsB k.set d = true) : compG k d = some (compL k d) := by
  unfold compG compO
  rw [h1, h2]; rfl
theorem compIG_any (k : KnD) (v : Value) (lo : Nat) (d : ByteArray) (w : World) (hl : -9223372036854775808 ≤ k.set.lit ∧ k.set.lit ≤ 9223372036854775807) (hr : RdP lo w v k.ps) (hps : k.ps.length ≤ 1073741824) (hd : d.size ≤ 1073741824) :
    Calls Try.prog 11  #[kV k v, .string d] w (Same (optS (compG k d.data.toList)) w) := by
  unfold compG
  cases h : validK k
  · exact compI_no k v lo d w h hl hr hps
  · obtain ⟨h1, h2⟩ := ok_of_valid h
    exact compI_any k v lo d w h1 h2 hr hd
theorem compSG_any (k : KnD) (v : Value) (lo : Nat) (d : ByteArray) (w : World) (hr : RdP lo w v k.ps) (hps : k.ps.length ≤ 1073741824) (hd : d.size ≤ 1073741824) :
    Calls Try.prog 14  #[kV k v, .string d] w (Same (optS (compG k d.data.toList)) w) := by
  unfold compG
  cases h : validK k
  · exact compS_no k v lo d w h hr hps
  · obtain ⟨h1, h2⟩ := ok_of_valid h
    exact compS_any k v lo d w h1 h2 hr hd

end Go.Proofs.Ytbimdjlcjcdbnaa

/- Plain: what reading codes from bits gives. Conditions: as each says. -/
namespace Go.Proofs.Ytbimdjlcjcdbnaa
set_option linter.unusedVariables false
set_option linter.unusedSimpArgs false
open Go Go.RowKit

/-- What reading codes gives: what is known, the codes, the data, how it ends, and where. -/
structure RdR where
  k : KnD
  codes : List Int
  data : List UInt8
  fin : Int
  pos : Nat
def codeAt (o : Int) (bits : List UInt8) (p wd : Nat) : Int := numL o ((bits.drop p).take wd)
def readN (o : Int) (bits : List UInt8) (sz ct : Nat) : Nat → KnD → Nat → List Int → List UInt8 → RdR
  | 0, k, p, cs, d => ⟨k, cs, d, 1, p⟩
  | n + 1, k, p, cs, d =>
    if bits.length < p + k.width then ⟨k, cs, d, 1, p⟩
    else if codeAt o bits p k.width = (k.c : Int) + 1 then ⟨k, cs ++ [codeAt o bits p k.width], d, 0, p + k.width⟩
    else if codeAt o bits p k.width = (k.c : Int) then
      if 3100 ≤ ct + (cs.length + 1) then ⟨k.cleared, cs ++ [codeAt o bits p k.width], d, 3, p + k.width⟩ else readN o bits sz ct n k.cleared (p + k.width) (cs ++ [codeAt o bits p k.width]) d
    else if k.follows (codeAt o bits p k.width) = false then ⟨k, cs, d, 2, p + k.width⟩
    else if 2000 < sz + d.length + (k.any (codeAt o bits p k.width)).length then ⟨k, cs, d, 3, p + k.width⟩
    else if 3100 ≤ ct + (cs.length + 1) then ⟨k.after (codeAt o bits p k.width), cs ++ [codeAt o bits p k.width], d ++ k.any (codeAt o bits p k.width), 3, p + k.width⟩
    else readN o bits sz ct n (k.after (codeAt o bits p k.width)) (p + k.width) (cs ++ [codeAt o bits p k.width]) (d ++ k.any (codeAt o bits p k.width))

section
variable {o : Int} {bits : List UInt8} {sz ct n : Nat} {k : KnD} {p : Nat} {cs : List Int} {d : List UInt8} {x : Int}
end

/-- What holds at all times of a reading that has begun at k0. -/
structure RdInv (bits : List UInt8) (sz : Nat) (k0 : KnD) (k : KnD) (p : Nat) (cs : List Int) (d : List UInt8) : Prop where
  ok : k.Ok
  set : k.set = k0.set
  pos : p ≤ bits.length
  dl : sz + d.length ≤ 2000
  walk : ∀ ys, ∃ ws, walkN k0 (cs ++ ys) [] [] = walkN k ys ws d
theorem RdInv.start {bits : List UInt8} {sz : Nat} {k : KnD} (h : k.Ok) (hs : sz ≤ 2000) : RdInv bits sz k k 0 [] [] := ⟨h, rfl, Nat.zero_le _, by simpa using hs, fun ys => ⟨[], rfl⟩⟩
theorem RdInv.clear {bits : List UInt8} {sz : Nat} {k0 k : KnD} {p : Nat} {cs : List Int} {d : List UInt8} (h : RdInv bits sz k0 k p cs d) (hp : ¬ bits.length < p + k.width) : RdInv bits sz k0 k.cleared (p + k.width) (cs ++ [(k.c : Int)]) d :=
  ⟨KnD.cleared_ok h.ok, h.set, by omega, h.dl, fun ys => by
    obtain ⟨ws, hw⟩ := h.walk ((k.c : Int) :: ys)
    refine ⟨ws ++ [(k.width : Int)], ?_⟩
    rw [List.append_assoc]
    show walkN k0 (cs ++ (k.c : Int) :: ys) [] [] = _
    rw [hw, walkN_clear rfl]⟩
theorem RdInv.word {bits : List UInt8} {sz : Nat} {k0 k : KnD} {p : Nat} {cs : List Int} {d : List UInt8} {x : Int} (h : RdInv bits sz k0 k p cs d) (hp : ¬ bits.length < p + k.width) (h1 : x ≠ (k.c : Int) + 1) (h2 : x ≠ (k.c : Int)) (h3 : k.follows x = true) (h4 : ¬ 2000 < sz + d.length + (k.any x).length) : RdInv bits sz k0 (k.after x) (p + k.width) (cs ++ [x]) (d ++ k.any x) :=
  ⟨KnD.after_ok h.ok h3, h.set, by omega, by rw [List.length_append]; omega, fun ys => by
    obtain ⟨ws, hw⟩ := h.walk (x :: ys)
    have := h.dl
    refine ⟨ws ++ [(k.width : Int)], ?_⟩
    rw [List.append_assoc]
    show walkN k0 (cs ++ x :: ys) [] [] = _
    rw [hw, walkN_word h1 h2 h3 (by omega)]⟩

/-- What holds of a reading's result. -/
structure RdFin (bits : List UInt8) (sz ct : Nat) (k0 : KnD) (R : RdR) : Prop where
  ok : R.k.Ok
  set : R.k.set = k0.set
  pos : R.pos ≤ bits.length
  dl : sz + R.data.length ≤ 2000
  fin : 0 ≤ R.fin ∧ R.fin ≤ 3
  cl : ct + R.codes.length ≤ 3100
  walk : (walkN k0 R.codes [] []).data = R.data
  kind : R.fin = 0 ∨ R.fin = 1 ∨ R.fin = 2 ∨ R.fin = 3
/-- The bits of bytes. -/
def unpackL (o : Int) (s : List UInt8) : List UInt8 := s.flatMap fun b => codeL o b.toNat 8
theorem unpackL_snoc (o : Int) (s : List UInt8) (b : UInt8) : unpackL o (s ++ [b]) = unpackL o s ++ codeL o b.toNat 8 := by simp [unpackL]
theorem unpackL_length (o : Int) (s : List UInt8) : (unpackL o s).length = 8 * s.length := by
  induction s using snoc_ind with
  | h0 => rfl
  | h1 l a ih => rw [unpackL_snoc, List.length_append, ih, codeL_length, List.length_append]; simp; omega
theorem isBits_unpack (o : Int) (s : List UInt8) : isBits (unpackL o s) := fun b hb => by
  unfold unpackL at hb
  obtain ⟨x, -, hx⟩ := List.mem_flatMap.1 hb
  exact isBits_code o _ 8 b hx
/-- What decompressing a stream gives: the data, how it ends, how many bytes are used. -/
structure DecR where
  data : List UInt8
  fin : Int
  used : Nat
end Go.Proofs.Ytbimdjlcjcdbnaa

/- Plain: reading the stream of data gives the data again. Conditions: what is known is valid, the data fits. -/
namespace Go.Proofs.Ytbimdjlcjcdbnaa
set_option linter.unusedVariables false
set_option linter.unusedSimpArgs false
open Go Go.RowKit

/-! Bits and numbers. -/
theorem numF_fold (l : List UInt8) : ∀ a : Int, l.foldl (fun (n : Int) b => 2 * n + (b.toNat : Int) - 48) a = a * ((2 ^ l.length : Nat) : Int) + numF l := by
  induction l with
  | nil => intro a; simp [numF]
  | cons b l ih =>
    intro a
    have h0 : numF (b :: l) = l.foldl (fun (n : Int) b => 2 * n + (b.toNat : Int) - 48) (2 * 0 + (b.toNat : Int) - 48) := rfl
    rw [h0, List.foldl_cons, ih, ih, List.length_cons, Nat.pow_succ]
    simp only [Int.natCast_mul]
    generalize ((2 ^ l.length : Nat) : Int) = q
    have e : ((2 : Nat) : Int) = 2 := rfl
    rw [e, show (2 * a + (b.toNat : Int) - 48) * q = 2 * a * q + ((b.toNat : Int) - 48) * q by rw [← Int.add_mul]; congr 1; omega, show a * (q * 2) = 2 * a * q by rw [Int.mul_comm q 2, ← Int.mul_assoc, Int.mul_comm a 2], show (2 * 0 + (b.toNat : Int) - 48) * q = ((b.toNat : Int) - 48) * q by rw [show (2 * 0 + (b.toNat : Int) - 48) = (b.toNat : Int) - 48 by omega]]
    omega
theorem numF_cons (b : UInt8) (l : List UInt8) : numF (b :: l) = ((b.toNat : Int) - 48) * ((2 ^ l.length : Nat) : Int) + numF l := by
  have h0 : numF (b :: l) = l.foldl (fun (n : Int) b => 2 * n + (b.toNat : Int) - 48) (2 * 0 + (b.toNat : Int) - 48) := rfl
  rw [h0, numF_fold, show (2 * 0 + (b.toNat : Int) - 48) = (b.toNat : Int) - 48 by omega]
theorem numF_low (n wd : Nat) : numF (lowL n wd).reverse = ((n % 2 ^ wd : Nat) : Int) := by
  induction wd with
  | zero => simp [lowL, numF, Nat.mod_one]
  | succ wd ih =>
    rw [lowL_succ, List.reverse_append, List.reverse_cons, List.reverse_nil, List.nil_append, List.singleton_append, numF_cons, ih, List.length_reverse, lowL_length, bitB_nat, Nat.mod_pow_succ]
    have h : (((48 + n / 2 ^ wd % 2 : Nat) : Int) - 48) = ((n / 2 ^ wd % 2 : Nat) : Int) := by omega
    rw [h]
    have h2 : ((n % 2 ^ wd + 2 ^ wd * (n / 2 ^ wd % 2) : Nat) : Int) = ((n % 2 ^ wd : Nat) : Int) + ((2 ^ wd : Nat) : Int) * ((n / 2 ^ wd % 2 : Nat) : Int) := by
      rw [← Int.natCast_mul, ← Int.natCast_add]
    rw [h2, Int.mul_comm, Int.add_comm]
theorem num_code (o : Int) {n wd : Nat} (h : n < 2 ^ wd) : numL o (codeL o n wd) = n := by
  have e := numF_low n wd
  rw [Nat.mod_eq_of_lt h] at e
  unfold numL codeL
  split
  · exact e
  · exact e
theorem numF_inj : ∀ {l m : List UInt8}, isBits l → isBits m → l.length = m.length → numF l = numF m → l = m
  | [], [], _, _, _, _ => rfl
  | [], _ :: _, _, _, h, _ => by simp at h
  | _ :: _, [], _, _, h, _ => by simp at h
  | a :: l, b :: m, ha, hb, hl, he => by
    have hl' : l.length = m.length := by simpa using hl
    have ha2 : isBits l := fun x hx => ha x (List.mem_cons_of_mem _ hx)
    have hb2 : isBits m := fun x hx => hb x (List.mem_cons_of_mem _ hx)
    have h1 := numF_bd ha2
    have h2 := numF_bd hb2
    have a1 := ha a (List.mem_cons_self ..)
    have b1 := hb b (List.mem_cons_self ..)
    rw [numF_cons, numF_cons, hl'] at he
    rw [hl'] at h1
    generalize ((2 ^ m.length : Nat) : Int) = q at *
    have hab : a = b := by
      apply UInt8.toNat_inj.1
      rcases a1 with a1 | a1 <;> rcases b1 with b1 | b1 <;> rw [a1, b1] at he <;> simp at he <;> omega
    subst hab
    rw [numF_inj ha2 hb2 hl' (by omega)]
theorem code_num {o : Int} (ho : o = 0 ∨ o = 1) {l : List UInt8} (hb : isBits l) : codeL o (numL o l).toNat l.length = l := by
  have h1 := numL_bd (o := o) hb
  have hlt : (numL o l).toNat < 2 ^ l.length := by omega
  have h2 := num_code o hlt
  have hcb := isBits_code o (numL o l).toNat l.length
  have hcl := codeL_length o (numL o l).toNat l.length
  rw [Int.toNat_of_nonneg h1.1] at h2
  generalize codeL o (numL o l).toNat l.length = c at *
  unfold numL at h2
  split at h2
  · have := numF_inj hcb.rev hb.rev (by simp [hcl]) h2
    exact List.reverse_inj.1 this
  · exact numF_inj hcb hb hcl h2
theorem chunks_take (P : List UInt8) : ∀ m : Nat, (List.range m).flatMap (fun k => (P.drop (8 * k)).take 8) = P.take (8 * m)
  | 0 => by simp
  | m + 1 => by
    rw [List.range_succ, List.flatMap_append, chunks_take P m]
    simp only [List.flatMap_cons, List.flatMap_nil, List.append_nil]
    rw [show 8 * (m + 1) = 8 * m + 8 by omega, List.take_add]
theorem unpack_pack {o : Int} (ho : o = 0 ∨ o = 1) {l : List UInt8} (hb : isBits l) : unpackL o (packL o l) = padL l := by
  unfold unpackL packL
  rw [List.flatMap_map]
  have hpl := padL_length l
  have hpb := isBits_pad hb
  generalize padL l = P at *
  have e : (List.range (P.length / 8)).flatMap (fun a => codeL o (byteN o P a).toNat 8) = (List.range (P.length / 8)).flatMap (fun k => (P.drop (8 * k)).take 8) := by
    rw [List.flatMap_def, List.flatMap_def]
    congr 1
    refine List.map_congr_left fun k hk => ?_
    rw [List.mem_range] at hk
    have hl8 : ((P.drop (8 * k)).take 8).length = 8 := by rw [List.length_take, List.length_drop]; omega
    have hb8 : isBits ((P.drop (8 * k)).take 8) := (hpb.drop _).take _
    have hbd := numL_bd (o := o) hb8
    rw [hl8] at hbd
    have hu := ub_nat hbd.1 (by have := hbd.2; simpa using this)
    have h2 : (byteN o P k).toNat = (numL o ((P.drop (8 * k)).take 8)).toNat := by unfold byteN; omega
    rw [h2]
    have := code_num ho hb8
    rw [hl8] at this
    exact this
  rw [e, chunks_take, List.take_of_length_le (by omega)]

/-! Codes and their bits. -/
theorem KnD.fol_top {k : KnD} {x : Int} (h : k.Ok) (hf : k.follows x = true) : 0 ≤ x ∧ x ≤ (k.top : Int) := by
  have ht := (KnD.top_bd h).1
  rcases KnD.follows_cases h hf with hc | ⟨hg, hxn, _⟩
  · rw [codeOk_iff] at hc
    have : k.next ≤ k.top + 1 := by unfold KnD.top; split <;> omega
    unfold KnD.next at this; omega
  · unfold KnD.top; rw [if_pos hg]; omega
theorem top_lt (k : KnD) : k.top < 2 ^ k.width := by
  have h1 := pow_needed k.top
  have h2 : needed k.top ≤ k.width := by unfold KnD.width; omega
  have h3 : 2 ^ needed k.top ≤ 2 ^ k.width := Nat.pow_le_pow_right (by decide) h2
  omega
theorem codeAt_code {o : Int} {pre post : List UInt8} {x : Int} {wd : Nat} (h0 : 0 ≤ x) (hx : x.toNat < 2 ^ wd) : codeAt o (pre ++ (codeL o x.toNat wd ++ post)) pre.length wd = x := by
  unfold codeAt
  rw [List.drop_left, List.take_append_of_le_length (by rw [codeL_length]; exact Nat.le_refl _), List.take_of_length_le (by rw [codeL_length]; exact Nat.le_refl _), num_code o hx]
  omega
theorem greedyN_end : ∀ (n : Nat) (k : KnD) (d : List UInt8), ∃ ys, greedyN n k d = ys ++ [(k.c : Int) + 1]
  | 0, k, d => ⟨[], rfl⟩
  | n + 1, k, d => by
    rw [greedyN]
    split
    · exact ⟨[], rfl⟩
    · split
      · obtain ⟨ys, h⟩ := greedyN_end n (k.after (k.find (k.longest d))).cleared (d.drop (k.longest d).length)
        exact ⟨_ :: _ :: ys, by rw [h]; rfl⟩
      · obtain ⟨ys, h⟩ := greedyN_end n (k.after (k.find (k.longest d))) (d.drop (k.longest d).length)
        exact ⟨_ :: ys, by rw [h]; rfl⟩
end Go.Proofs.Ytbimdjlcjcdbnaa

/- Plain: a stream of data is no longer than 4000 bytes, and the data is read from it. Conditions: as each says. -/
namespace Go.Proofs.Ytbimdjlcjcdbnaa
set_option linter.unusedVariables false
set_option linter.unusedSimpArgs false
open Go Go.RowKit

theorem compL_4000 {k : KnD} {d : List UInt8} (h : k.Ok) (hl : ∀ b ∈ d, b.toNat < k.c) (hd : d.length ≤ 2000) : (compL k d).length ≤ 4000 := by
  obtain ⟨g1, g2, g3, g4, g5⟩ := walk_greedy h hl hd
  have g6 := greedy_tight h hl hd
  have h9 := packC_len10 k.set.ord (greedy k d) (walkN k (greedy k d) [] []).ws (fun x hx => ⟨by have := (g4 x hx).1; omega, (g4 x hx).2⟩)
  unfold compL
  rw [packL_length]
  omega
end Go.Proofs.Ytbimdjlcjcdbnaa

/- Plain: reading the bits of a stream code by code gives the data (for FnWholeBits). Conditions: as each says. -/
namespace Go.Proofs.Ytbimdjlcjcdbnaa
set_option linter.unusedVariables false
set_option linter.unusedSimpArgs false
open Go Go.RowKit

/-- The bits from p on are those of the codes xs, which give the rest of the data. -/
structure WbInv (o : Int) (bits d : List UInt8) (tot : Nat) (k : KnD) (xs W ws : List Int) (p : Nat) (dd : List UInt8) : Prop where
  ok : k.Ok
  vl : k.last = -1 → k.base = k.ps.length
  walk : walkN k xs ws dd = ⟨ws ++ W, d, true⟩
  len : W.length = xs.length
  fin : ∃ ys, xs = ys ++ [(k.c : Int) + 1]
  bits : ∃ pre post, bits = pre ++ (packC o xs W ++ post) ∧ pre.length = p
  tot : p + (packC o xs W).length = tot
theorem walk_pre : ∀ (zs : List Int) (kk : KnD) (vs : List Int) (dd : List UInt8), ∃ V, (walkN kk zs vs dd).ws = vs ++ V := by
  intro zs
  induction zs with
  | nil => intro kk vs dd; exact ⟨[], by simp [walkN]⟩
  | cons z zs ihz =>
    intro kk vs dd
    rw [walkN]
    split
    · exact ⟨_, rfl⟩
    · split
      · obtain ⟨V, hV⟩ := ihz kk.cleared (vs ++ [(kk.width : Int)]) dd
        exact ⟨(kk.width : Int) :: V, by rw [hV]; simp⟩
      · split
        · exact ⟨_, rfl⟩
        · obtain ⟨V, hV⟩ := ihz (kk.after z) (vs ++ [(kk.width : Int)]) (dd ++ kk.any z)
          exact ⟨(kk.width : Int) :: V, by rw [hV]; simp⟩
theorem WbInv.step {o : Int} {bits d : List UInt8} {tot : Nat} {k : KnD} {xs W ws : List Int} {p : Nat} {dd : List UInt8} (h : WbInv o bits d tot k xs W ws p dd) :
    ∃ x, codeAt o bits p k.width = x ∧ p + k.width ≤ tot ∧ p + k.width ≤ bits.length ∧ 0 ≤ x ∧ x ≤ (k.top : Int) ∧
      ((x = (k.c : Int) + 1 ∧ dd = d ∧ p + k.width = tot) ∨
       (x = (k.c : Int) ∧ ∃ xs' W', WbInv o bits d tot k.cleared xs' W' (ws ++ [(k.width : Int)]) (p + k.width) dd) ∨
       (x ≠ (k.c : Int) + 1 ∧ x ≠ (k.c : Int) ∧ k.follows x = true ∧ ∃ xs' W', WbInv o bits d tot (k.after x) xs' W' (ws ++ [(k.width : Int)]) (p + k.width) (dd ++ k.any x))) := by
  obtain ⟨hk, hv, hT, hW, hend, ⟨pre, post, hbits, hpre⟩, htot⟩ := h
  obtain ⟨x, xs, rfl⟩ : ∃ x xs', xs = x :: xs' := by
    cases xs with
    | nil => obtain ⟨ys, hy⟩ := hend; simp at hy
    | cons a l => exact ⟨a, l, rfl⟩
  obtain ⟨w0, W', rfl⟩ : ∃ w0 W', W = w0 :: W' := by
    cases W with
    | nil => simp at hW
    | cons a l => exact ⟨a, l, rfl⟩
  have hW' : W'.length = xs.length := by simpa using hW
  have hw0 : w0 = (k.width : Int) := by
    have hws : (walkN k (x :: xs) ws dd).ws = ws ++ w0 :: W' := by rw [hT]
    rcases walkN_ok hT rfl with ⟨h1, h2, h3⟩ | ⟨h1, h2⟩ | ⟨h1, h2, h3, h4, h5⟩
    · have := congrArg WkR.ws h3
      have h9 : w0 = (k.width : Int) ∧ W' = [] := by simpa using this
      exact h9.1
    · obtain ⟨V, hV⟩ := walk_pre xs k.cleared (ws ++ [(k.width : Int)]) dd
      rw [h2] at hV
      have : ws ++ w0 :: W' = ws ++ (k.width : Int) :: V := by simpa using hV
      exact (List.cons.inj (List.append_cancel_left this)).1
    · obtain ⟨V, hV⟩ := walk_pre xs (k.after x) (ws ++ [(k.width : Int)]) (dd ++ k.any x)
      rw [h4] at hV
      have : ws ++ w0 :: W' = ws ++ (k.width : Int) :: V := by simpa using hV
      exact (List.cons.inj (List.append_cancel_left this)).1
  subst hw0
  have hb : bits = pre ++ (codeL o x.toNat k.width ++ (packC o xs W' ++ post)) := by rw [hbits]; simp [packC]
  have hb2 : bits = (pre ++ codeL o x.toNat k.width) ++ (packC o xs W' ++ post) := by rw [hbits]; simp [packC]
  have hpl : (packC o (x :: xs) ((k.width : Int) :: W')).length = k.width + (packC o xs W').length := by simp [packC, codeL_length]
  have hpl2 : (pre ++ codeL o x.toNat k.width).length = p + k.width := by rw [List.length_append, codeL_length, hpre]
  have hlen : p + k.width ≤ bits.length := by rw [hb2, List.length_append, hpl2]; omega
  have htb := (KnD.top_bd hk).1
  have htl := top_lt k
  have hcode : 0 ≤ x → x ≤ (k.top : Int) → codeAt o bits p k.width = x := fun h0 h1 => by
    rw [hb, ← hpre]; exact codeAt_code h0 (by omega)
  have hend2 : xs ≠ [] → ∃ ys, xs = ys ++ [(k.c : Int) + 1] := fun hne => by
    obtain ⟨ys, hys⟩ := hend
    cases ys with
    | nil => simp at hys; exact absurd hys.2 hne
    | cons y ys => simp at hys; exact ⟨ys, hys.2⟩
  rw [hpl] at htot
  rcases walkN_ok hT rfl with ⟨h1, h2, h3⟩ | ⟨h1, h2⟩ | ⟨h1, h2, h3, h4, h5⟩
  · subst h2
    have hDe : d = dd := congrArg WkR.data h3
    have hWn : W' = [] := List.length_eq_zero_iff.1 (by simpa using hW')
    subst hWn
    refine ⟨x, hcode (by omega) (by omega), by omega, hlen, by omega, by omega, .inl ⟨h1, hDe.symm, ?_⟩⟩
    simp [packC] at htot
    exact htot
  · have hne : xs ≠ [] := fun e => by
      obtain ⟨ys, hys⟩ := hend
      rw [e] at hys
      cases ys with
      | nil => simp at hys; omega
      | cons y ys => simp at hys
    have h2' : walkN k.cleared xs (ws ++ [(k.width : Int)]) dd = ⟨(ws ++ [(k.width : Int)]) ++ W', d, true⟩ := by rw [h2]; simp
    refine ⟨x, hcode (by omega) (by omega), by omega, hlen, by omega, by omega, .inr (.inl ⟨h1, xs, W', ⟨KnD.cleared_ok hk, fun _ => ?_, h2', hW', hend2 hne, ⟨_, post, hb2, hpl2⟩, by omega⟩⟩)⟩
    have hb0 := hk.base0
    have hb1 := hk.base1
    show k.base = ((k.ps.take k.base.toNat).length : Int)
    rw [List.length_take]; omega
  · have hne : xs ≠ [] := fun e => by
      obtain ⟨ys, hys⟩ := hend
      rw [e] at hys
      cases ys with
      | nil => simp at hys; exact h1 hys
      | cons y ys => simp at hys
    obtain ⟨t1, t2⟩ := KnD.fol_top hk h3
    have h4' : walkN (k.after x) xs (ws ++ [(k.width : Int)]) (dd ++ k.any x) = ⟨(ws ++ [(k.width : Int)]) ++ W', d, true⟩ := by rw [h4]; simp
    refine ⟨x, hcode t1 t2, by omega, hlen, t1, t2, .inr (.inr ⟨h1, h2, h3, xs, W', ⟨KnD.after_ok hk h3, fun hl => ?_, h4', hW', hend2 hne, ⟨_, post, hb2, hpl2⟩, by omega⟩⟩)⟩
    have hl : x = -1 := hl
    omega
/-- The start: the stream of data. -/
theorem wb_start {k : KnD} {d : List UInt8} (hk : k.Ok) (hv : k.last = -1 → k.base = k.ps.length) (hl : ∀ b ∈ d, b.toNat < k.c) (hd : d.length ≤ 2000) :
    WbInv k.set.ord (unpackL k.set.ord (compL k d)) d (packC k.set.ord (greedy k d) (walkN k (greedy k d) [] []).ws).length k (greedy k d) (walkN k (greedy k d) [] []).ws [] 0 [] ∧
    ((packC k.set.ord (greedy k d) (walkN k (greedy k d) [] []).ws).length + 7) / 8 = (compL k d).length := by
  obtain ⟨g1, g2, g3, g4, g5⟩ := walk_greedy hk hl hd
  have ho := (setOk_bd hk.set).1
  have hib := isBits_packC k.set.ord (greedy k d) (walkN k (greedy k d) [] []).ws
  have hun := unpack_pack ho hib
  have hplen := packL_length k.set.ord (packC k.set.ord (greedy k d) (walkN k (greedy k d) [] []).ws)
  obtain ⟨ys, hys⟩ := greedyN_end d.length k.cleared d
  refine ⟨⟨hk, hv, ?_, g1, ⟨(k.c : Int) :: ys, by unfold greedy; rw [hys]; rfl⟩, ⟨[], List.replicate ((8 - (packC k.set.ord (greedy k d) (walkN k (greedy k d) [] []).ws).length % 8) % 8) 48, ?_, rfl⟩, Nat.zero_add _⟩, ?_⟩
  · generalize walkN k (greedy k d) [] [] = T at *
    obtain ⟨a, b, c⟩ := T
    simp only at g2 g3
    rw [g2, g3]; rfl
  · unfold compL
    rw [hun]; rfl
  · unfold compL
    rw [hplen]

end Go.Proofs.Ytbimdjlcjcdbnaa

/- Walks of the program's bitsNumber and unpackBytes; the memory of a reading. Conditions: as each says. -/
namespace Go.Proofs.Ytbimdjlcjcdbnaa
set_option linter.unusedVariables false
set_option linter.unusedSimpArgs false
open Go Go.RowKit

/-- The sum of the places of the first j bits that are set. -/
def sumW (o : Int) (l : List UInt8) (wd : Nat) : Nat → Int
  | 0 => 0
  | j + 1 => sumW o l wd j + (if (l.getD j 0).toNat = 49 then ((2 ^ plc o j wd : Nat) : Int) else 0)
theorem sumW_step {o : Int} {l : List UInt8} {wd j : Nat} (h : j < l.length) : sumW o l wd (j + 1) = sumW o l wd j + (if (l[j]).toNat = 49 then ((2 ^ plc o j wd : Nat) : Int) else 0) := by
  rw [sumW, List.getD_eq_getElem?_getD, List.getElem?_eq_getElem h]; rfl
theorem sumW_bd (o : Int) (l : List UInt8) {wd : Nat} (hw : wd ≤ 16) : ∀ j, j ≤ wd → 0 ≤ sumW o l wd j ∧ sumW o l wd j ≤ 65536 * j
  | 0, _ => by simp [sumW]
  | j + 1, h => by
    have ih := sumW_bd o l hw j (by omega)
    have h1 := plc_lt (o := o) (i := j) (wd := wd) (by omega)
    have h2 := pow_len (k := plc o j wd) (n := 16) (by omega) (by omega)
    have h3 : (0 : Int) ≤ ((2 ^ plc o j wd : Nat) : Int) := Int.natCast_nonneg _
    have h4 : ((2 ^ plc o j wd : Nat) : Int) ≤ 65536 := by have := Int.ofNat_le.2 h2; exact this
    rw [sumW]
    clear h1 h2
    generalize ((2 ^ plc o j wd : Nat) : Int) = q at *
    split
    · omega
    · omega
theorem sumW_low {l : List UInt8} (hb : isBits l) : ∀ j, j ≤ l.length → sumW 0 l l.length j = numF (l.take j).reverse
  | 0, _ => by simp [sumW, numF]
  | j + 1, h => by
    have hj : j < l.length := h
    rw [sumW_step hj, sumW_low hb j (by omega), List.take_succ_eq_append_getElem hj, List.reverse_append, List.reverse_cons, List.reverse_nil, List.nil_append, List.singleton_append, numF_cons, List.length_reverse, List.length_take, Nat.min_eq_left (by omega)]
    have e : plc 0 j l.length = j := by unfold plc; rw [if_neg (by decide)]
    rw [e]
    rcases hb l[j] (List.getElem_mem hj) with h1 | h1
    · rw [if_neg (by omega), h1]; simp
    · rw [if_pos h1, h1]; simp; omega
theorem sumW_high {l : List UInt8} (hb : isBits l) : ∀ j, j ≤ l.length → sumW 1 l l.length j = numF (l.take j) * ((2 ^ (l.length - j) : Nat) : Int)
  | 0, _ => by simp [sumW, numF]
  | j + 1, h => by
    have hj : j < l.length := h
    rw [sumW_step hj, sumW_high hb j (by omega), List.take_succ_eq_append_getElem hj, numF_snoc]
    have e : plc 1 j l.length = l.length - (j + 1) := by unfold plc; rw [if_pos rfl]; omega
    have e2 : l.length - j = (l.length - (j + 1)) + 1 := by omega
    rw [e, e2, Nat.pow_succ]
    generalize 2 ^ (l.length - (j + 1)) = q
    generalize numF (l.take j) = f
    have e3 : ((q * 2 : Nat) : Int) = (q : Int) * 2 := by simp
    rw [e3]
    rcases hb l[j] (List.getElem_mem hj) with h1 | h1
    · rw [if_neg (by omega), h1, show (2 * f + ((48 : Nat) : Int) - 48) = 2 * f by omega, Int.add_zero, ← Int.mul_assoc, Int.mul_comm (f * (q : Int)) 2, ← Int.mul_assoc]
    · rw [if_pos h1, h1, show (2 * f + ((49 : Nat) : Int) - 48) = 2 * f + 1 by omega, Int.add_mul, Int.one_mul, ← Int.mul_assoc, Int.mul_comm (f * (q : Int)) 2, ← Int.mul_assoc]
theorem sumW_num {o : Int} (ho : o = 0 ∨ o = 1) {l : List UInt8} (hb : isBits l) : sumW o l l.length l.length = numL o l := by
  rcases ho with rfl | rfl
  · rw [sumW_low hb l.length (Nat.le_refl _), List.take_length]; unfold numL; rw [if_pos rfl]
  · rw [sumW_high hb l.length (Nat.le_refl _), List.take_length, Nat.sub_self]; unfold numL; rw [if_neg (by decide)]; simp

def RelBn (o : Int) (l : List UInt8) (wd : Nat) (n i : Value) : Prop := ∃ j : Nat, j ≤ wd ∧ i = .int .i64 j ∧ n = .int .i64 (sumW o l wd j)
set_option maxRecDepth 100000 in
set_option maxHeartbeats 1000000 in
theorem bitsN_any (o : Int) (s : ByteArray) (w : World) (ho : o = 0 ∨ o = 1) (hb : isBits s.data.toList) (hs : s.size ≤ 16) :
    Calls Try.prog 44  #[.int .i64 o, .string s] w (fun e w' => e = .returned (.int .i64 (numL o s.data.toList)) ∧ w = w') := by
  have hlen := ba_len s
  have HT : Hid (sumW o s.data.toList s.size s.size = numL o s.data.toList) := by unfold Hid; rw [← sumW_num ho hb, hlen]
  have ho1 := ho
  go_enter Try.func44, Try.ntmps44
  go_wp2
  go_loop [5, 9] (fun n i => RelBn o s.data.toList s.size n i) (fun _ i => s.size - (intOf i).toNat)
  case atStart => exact ⟨0, Nat.zero_le _, rfl, rfl⟩
  case round =>
    obtain ⟨j, hj, rfl, rfl⟩ := hrel
    have hbd := sumW_bd o s.data.toList (wd := s.size) (by omega) j (by omega)
    have hbd1 := hbd.1
    have hbd2 : sumW o s.data.toList s.size j ≤ 1048576 := by omega
    by_cases hlt : j < s.size
    · have hlt2 : j < s.data.toList.length := by omega
      have HS := Lib.hid (sumW_step (o := o) (wd := s.size) hlt2)
      have hu := u8_bd s[j]
      have e : s[j] = s.data.toList[j] := rfl
      have hpl := plc_lt (o := o) (i := j) (wd := s.size) hlt
      have hpw := pow_len (k := plc o j s.size) (n := 16) (by omega) (by omega)
      have cP : ∀ wx, Calls Try.prog 83  #[.int .i64 o, .int .i64 j, .int .i64 s.size] wx (fun e w' => e = .returned (.int .i64 ((2 ^ plc o j s.size : Nat) : Int)) ∧ wx = w') := fun wx => placeI_any o j s.size wx ho1 hlt (by omega)
      have hpw2 : ((2 ^ plc o j s.size : Nat) : Int) ≤ 65536 := by have := Int.ofNat_le.2 hpw; exact this
      have hpw3 : 0 ≤ ((2 ^ plc o j s.size : Nat) : Int) := Int.natCast_nonneg _
      clear hbd hpl hpw
      generalize ((2 ^ plc o j s.size : Nat) : Int) = q at *
      by_cases h1 : (s[j]).toNat = 49
      · have HS2 : Hid (sumW o s.data.toList s.size (j + 1) = sumW o s.data.toList s.size j + q) := by
          unfold Hid; rw [HS.out, if_pos (by rw [← e]; exact h1)]
        have h1' : ((s[j]).toNat : Int) = 49 := by omega
        clear HS e h1 ho ho1
        generalize hf : sumW o s.data.toList s.size j = f at *
        clear hf
        go_wp2_with ((go_at_call 83; (with_reducible refine (cP _).mono ?_); rintro e w' ⟨rfl, rfl⟩))
        go_round
        case rel => exact ⟨j + 1, by omega, by go_num, by rw [HS2.out]⟩
        case measure => simp [intOf]; omega
      · have HS2 : Hid (sumW o s.data.toList s.size (j + 1) = sumW o s.data.toList s.size j) := by
          unfold Hid; rw [HS.out, if_neg (by rw [← e]; exact h1), Int.add_zero]
        have h1' : (((s[j]).toNat : Int) == 49) = false := by simp; omega
        clear HS e h1 ho ho1 cP
        go_wp2
        go_round
        case rel => exact ⟨j + 1, by omega, by go_num, by rw [HS2.out]⟩
        case measure => simp [intOf]; omega
    · have HJ : Hid (j = s.size) := by unfold Hid; omega
      go_wp2
      go_ret
      exact ⟨ret_int (by rw [← HT.out, HJ.out]), rfl⟩

def RelUb (o : Int) (s : List UInt8) (w : World) (out i : Value) (wr : World) : Prop := ∃ n : Nat, i = .int .i64 n ∧ n ≤ s.length ∧ ownU wr w.heap.size out (unpackL o (s.take n)) ∧ Up w wr
theorem mk_u8b (n : Nat) (hn : n ≤ 1048576) (w : World) : (Instr.makeSlice 22 (.int .i64 0) (.int .i64 (n : Int))).run Try.prog w = .ok (.slice (some ⟨w.heap.size, 0, none⟩) 0 n) (w.alloc (.cells (madeCells #[.int .u8 0] n) 5)) := by
  obtain ⟨i0, hi0, hz0, hz1, hz2⟩ := info_parts infoByte
  have := run_make (P := Try.prog) w 22 5 i0 _ Try.underlying22 hi0 hz0 .i64 .i64 0 n (by omega) (by omega) (by rw [hz2]; omega) (by omega)
  rw [hz1] at this
  simpa [Value.cells] using this
theorem own_mk0b {w : World} {base n : Nat} (hb : base ≤ w.heap.size) (hn : n ≤ maxLen) : ownU (w.alloc (.cells (madeCells #[.int .u8 0] n) 5)) base (.slice (some ⟨w.heap.size, 0, none⟩) 0 n) [] :=
  World.ownsRow_made w _ n hb hn (by simp [madeCells])
theorem unpackL_takeb (o : Int) {s : List UInt8} {i : Nat} (h : i < s.length) : unpackL o (s.take (i + 1)) = unpackL o (s.take i) ++ codeL o (s[i]).toNat 8 := by
  rw [List.take_succ_eq_append_getElem h, unpackL_snoc]

set_option maxRecDepth 100000 in
set_option maxHeartbeats 4000000 in
theorem unpackBI_any (o : Int) (s : ByteArray) (w : World) (ho : o = 0 ∨ o = 1) (hs : s.size ≤ 4000) :
    Calls Try.prog 74  #[.int .i64 o, .string s] w (Same (.string (bs (unpackL o s.data.toList))) w) := by
  have hlen := ba_len s
  have hmk := mk_u8b (8 * s.size) (by omega)
  have e1 : Hid (((8 * s.size : Nat) : Int) = 8 * (s.size : Int)) := by unfold Hid; omega
  rw [e1.out] at hmk
  have HO := Lib.hid ho
  clear ho
  go_enter Try.func74, Try.ntmps74
  go_wp2
  go_loopw [5, 13] (fun out i wr => RelUb o s.data.toList w out i wr) (fun _ i _ => s.size - (intOf i).toNat)
  case atStart => exact ⟨0, rfl, Nat.zero_le _, by rw [List.take_zero]; exact own_mk0b (Nat.le_refl _) (by unfold maxLen; omega), by (repeat (first | with_reducible exact Up.refl _ | with_reducible assumption | with_reducible refine Up.set ?_ (by first | exact Nat.le_refl _ | (simp only []; omega) | (simp; omega)) _ | with_reducible refine Up.alloc ?_ _ | with_reducible refine Up.drew ?_ | refine Up.trans ?_ (by with_reducible assumption)))⟩
  case round =>
    clear hmk
    obtain ⟨n, rfl, hle, hown, hup⟩ := hrel
    obtain ⟨a, c, rfl⟩ := ownsRow_shape hown
    have HOW := Lib.hid hown
    have HU := Lib.hid hup
    have hul : (unpackL o (s.data.toList.take n)).length ≤ 32000 := by rw [unpackL_length, List.length_take]; omega
    by_cases hlt : n < s.size
    · have hlt2 : n < s.data.toList.length := by omega
      have hu := u8_bd s[n]
      have HS : Hid (unpackL o (s.data.toList.take (n + 1)) = unpackL o (s.data.toList.take n) ++ codeL o (s[n]).toNat 8) := unpackL_takeb o hlt2
      obtain ⟨cl, hcl⟩ : ∃ cl, cl = codeL o (s[n]).toNat 8 := ⟨_, rfl⟩
      obtain ⟨d, hd⟩ : ∃ d, d = unpackL o (s.data.toList.take n) := ⟨_, rfl⟩
      have cB : Calls Try.prog 56  #[.slice a d.length c, .int .i64 o, .int .i64 ((s[n]).toNat : Nat), .int .i64 8] wr (fun e w' => ∃ v', e = .returned v' ∧ ownU w' w.heap.size v' (d ++ cl) ∧ Up w w') := by
        rw [hcl, hd]
        exact bitsI_any w o (s[n]).toNat 8 _ _ wr HO.out (by omega) (by omega) (by omega) HU.out HOW.out
      rw [← hcl, ← hd] at HS
      rw [← hd] at HOW hul ⊢
      clear hcl hd
      clear hown
      go_wp2_with (go_at_call 56; (with_reducible refine cB.mono ?_); rintro e w2 ⟨v2, rfl, ho2, hu2⟩)
      go_roundw
      case rel => exact ⟨n + 1, by go_num, by omega, by rw [HS.out]; exact ho2, hu2⟩
      case measure => simp [intOf]; omega
    · have HT : Hid (s.data.toList.take n = s.data.toList) := List.take_of_length_le (by omega)
      have cv := conv_any hown rfl
      clear hown
      go_wp2
      go_ret
      exact ⟨ret_str (by rw [HT.out]), hup⟩

end Go.Proofs.Ytbimdjlcjcdbnaa

/- Walks of the reference's l1Unpack and UnpackCodes. Conditions: what is known is valid and can be read; the string's length is bounded. -/
namespace Go.Proofs.Ytbimdjlcjcdbnaa
set_option linter.unusedVariables false
set_option linter.unusedSimpArgs false
open Go Go.RowKit

/-- What reading the codes of a stream gives. -/
structure UnR where
  codes : List Int
  fin : Int
  used : Nat
/-- The memory of UnpackCodes. -/
structure UnB (lo : Nat) (w : World) (k : KnD) (v : Value) (cs : List Int) (vc : Value) (wr : World) : Prop where
  kn : KnAt w.heap.size k v wr
  pr : RdP lo w v k.ps ∨ ownPr wr (w.heap.size + 1) v k.ps
  own : ownI wr (w.heap.size + 1) vc cs
  up : Up w wr
theorem UnB.upd {lo : Nat} {w : World} {k : KnD} {v : Value} {cs : List Int} {vc : Value} {wr w' : World} (h : UnB lo w k v cs vc wr) (hu : Up wr w') : UnB lo w k v cs vc w' :=
  ⟨h.kn.up hu, h.pr.imp id fun h => ownsRow_up h hu, ownsRow_up h.own hu, h.up.trans hu⟩
theorem UnB.stored {lo : Nat} {w : World} {k k' : KnD} {v v' : Value} {cs : List Int} {vc : Value} {wr : World} (h : UnB lo w k v cs vc wr) (hp : ownPr wr (w.heap.size + 1) v' k'.ps) : UnB lo w k' v' cs vc (KnW wr w.heap.size k' v') :=
  ⟨KnAt.store h.kn k' v', .inr (KnW.own hp (low_ne (w := w) hp (by omega)) k' v'), KnW.own h.own (low_ne (w := w) h.own (by omega)) k' v', KnW.up h.up (Nat.le_refl _) k' v'⟩
/-- Its plain state. -/
structure UnD (T : RdR) (o : Int) (bits : List UInt8) (k0 : KnD) (m : Nat) (k : KnD) (p : Nat) (cs : List Int) (d : List UInt8) : Prop where
  inv : RdInv bits 0 k0 k p cs d
  tot : readN o bits 0 0 m k p cs d = T
  len : bits.length ≤ p + m
  cl : cs.length < 3100
theorem bs_sub (l : List UInt8) (p n : Nat) : (bs l).extract p (p + n) = bs ((l.drop p).take n) := by rw [bs_ext, Nat.add_sub_cancel_left]

end Go.Proofs.Ytbimdjlcjcdbnaa

/- Walks of the program's UnpackBits, SpanBits, BitsCode, Width, WordOf, After and of the laws' soWord. Conditions: what is known is valid and can be read; the code can follow. -/
namespace Go.Proofs.Ytbimdjlcjcdbnaa
set_option linter.unusedVariables false
set_option linter.unusedSimpArgs false
open Go Go.RowKit

set_option maxRecDepth 100000 in
set_option maxHeartbeats 1000000 in
theorem unpackBitsI_any (o : Int) (s : ByteArray) (w : World) (ho : o = 0 ∨ o = 1) (hs : s.size ≤ 4000) :
    Calls Try.prog 40  #[.int .i64 o, .string s] w (Same (.tuple #[.string (bs (unpackL o s.data.toList)), .bool true]) w) := by
  have cO := fun w => orderI_any o w
  have cU := fun w => unpackBI_any o s w ho hs
  have ho1 : (o == 0 || o == 1) = true := by rcases ho with rfl | rfl <;> rfl
  rw [ho1] at cO
  clear ho ho1
  go_enter Try.func40, Try.ntmps40
  go_wp2_with (first | (go_at_call 42; (with_reducible refine (cO _).mono ?_); rintro e w' ⟨rfl, rfl⟩) | (go_at_call 74; (with_reducible refine (cU _).mono ?_); rintro e w3 ⟨rfl, U3⟩; have B3 := bcell U3; have Z3 := U3.size; (try simp at Z3); (try rw [Nat.add_one_le_iff] at Z3)))
  go_ret2
  exact ⟨rfl, U3⟩

set_option maxRecDepth 100000 in
set_option maxHeartbeats 1000000 in
theorem spanI_any (o : Int) (s : ByteArray) (p n : Nat) (w : World) (ho : o = 0 ∨ o = 1) (hs : s.size ≤ 4000) (hp : p + n ≤ 8 * s.size) :
    Calls Try.prog 19  #[.int .i64 o, .string s, .int .i64 p, .int .i64 n] w (Same (.tuple #[.string (bs (((unpackL o s.data.toList).drop p).take n)), .bool true]) w) := by
  have cU := fun w => unpackBitsI_any o s w ho hs
  have hul := unpackL_length o s.data.toList
  rw [ba_len] at hul
  have hbz := bs_size (unpackL o s.data.toList)
  have hsub := bs_sub (unpackL o s.data.toList) p n
  have HS := Lib.hid hsub
  rw [← HS.out]
  clear hsub HS ho
  generalize unpackL o s.data.toList = L at *
  have hLz : (bs L).size = 8 * s.size := by rw [hbz, hul]
  clear hbz hul
  generalize bs L = T at *
  go_enter Try.func19, Try.ntmps19
  go_wp2_with ((go_at_call 40; (with_reducible refine (cU _).mono ?_); rintro e w1 ⟨rfl, U1⟩; have B1 := bcell U1; have Z1 := U1.size; (try simp at Z1); (try rw [Nat.add_one_le_iff] at Z1)))
  go_ret2
  refine ⟨by first | rfl | (congr; omega) | skip, U1⟩

set_option maxRecDepth 100000 in
set_option maxHeartbeats 1000000 in
theorem bitsCodeI_any (o : Int) (s : ByteArray) (w : World) (ho : o = 0 ∨ o = 1) (hb : isBits s.data.toList) (h1 : 1 ≤ s.size) (h2 : s.size ≤ 10) :
    Calls Try.prog 21  #[.int .i64 o, .string s] w (fun e w' => e = .returned (.tuple #[.int .i64 (numL o s.data.toList), .bool true]) ∧ w = w') := by
  have cO := fun w => orderI_any o w
  have cV := fun w => bitsVI_any s w hb (by omega)
  have cN := fun w => bitsN_any o s w ho hb (by omega)
  have ho1 : (o == 0 || o == 1) = true := by rcases ho with rfl | rfl <;> rfl
  rw [ho1] at cO
  clear ho ho1 hb
  go_enter Try.func21, Try.ntmps21
  go_wp2_with (first | (go_at_call 42; (with_reducible refine (cO _).mono ?_); rintro e w' ⟨rfl, rfl⟩) | (go_at_call 43; (with_reducible refine (cV _).mono ?_); rintro e w' ⟨rfl, rfl⟩) | (go_at_call 44; (with_reducible refine (cN _).mono ?_); rintro e w' ⟨rfl, rfl⟩))
  go_ret2
  exact ⟨rfl, rfl⟩

set_option maxRecDepth 100000 in
set_option maxHeartbeats 1000000 in
theorem widthE_any (k : KnD) (v : Value) (lo : Nat) (w : World) (h : k.Ok) (hv : k.last = -1 → k.base = k.ps.length) (hr : RdP lo w v k.ps) :
    Calls Try.prog 20  #[kV k v] w (Same (.int .i64 (k.width : Nat)) w) := by
  have cV := fun wx hr => kvI_any k v lo wx h hv hr
  have cW := fun wx hr => widthI_any k v lo wx h hr
  have hrt := fun (wq : World) (hu : Up w wq) => hr.up hu
  obtain ⟨a, cap, rfl, -, -, -, -⟩ := hr
  clear h hv
  simp only [kV] at *
  go_enter Try.func20, Try.ntmps20
  go_wp2_with (first | (go_at_call 35; (with_reducible refine (cV _ (hrt _ (by (repeat (first | with_reducible exact Up.refl _ | with_reducible assumption | with_reducible refine Up.set ?_ (by first | exact Nat.le_refl _ | (simp only []; omega) | (simp; omega)) _ | with_reducible refine Up.alloc ?_ _ | with_reducible refine Up.drew ?_ | refine Up.trans ?_ (by with_reducible assumption)))))).mono ?_); rintro e w1 ⟨rfl, U1⟩; have B1 := bcell U1; have Z1 := U1.size; (try simp at Z1); (try rw [Nat.add_one_le_iff] at Z1)) | (go_at_call 41; (with_reducible refine (cW _ (hrt _ (by (repeat (first | with_reducible exact Up.refl _ | with_reducible assumption | with_reducible refine Up.set ?_ (by first | exact Nat.le_refl _ | (simp only []; omega) | (simp; omega)) _ | with_reducible refine Up.alloc ?_ _ | with_reducible refine Up.drew ?_ | refine Up.trans ?_ (by with_reducible assumption)))))).mono ?_); rintro e w2 ⟨rfl, U2⟩; have B2 := bcell U2; have Z2 := U2.size; (try simp at Z2); (try rw [Nat.add_one_le_iff] at Z2)))
  go_ret
  refine ⟨rfl, ?_⟩
  (repeat (first | with_reducible exact Up.refl _ | with_reducible assumption | with_reducible refine Up.set ?_ (by first | exact Nat.le_refl _ | (simp only []; omega) | (simp; omega)) _ | with_reducible refine Up.alloc ?_ _ | with_reducible refine Up.drew ?_ | refine Up.trans ?_ (by with_reducible assumption)))

set_option maxRecDepth 100000 in
set_option maxHeartbeats 4000000 in
theorem wordOfI_any (k : KnD) (v : Value) (lo : Nat) (x : Int) (w : World) (h : k.Ok) (hv : k.last = -1 → k.base = k.ps.length) (hr : RdP lo w v k.ps) (h0 : 0 ≤ x) (h1 : x ≤ (k.top : Int)) (h2 : x ≠ (k.c : Int) + 1) (hf : x ≠ (k.c : Int) → k.follows x = true) :
    Calls Try.prog 45  #[kV k v, .int .i64 x] w (Same (.tuple #[.string (bs (if x = (k.c : Int) then [] else k.any x)), .bool (!decide (x = (k.c : Int)))]) w) := by
  have cV := fun wx hr => kvI_any k v lo wx h hv hr
  have cC := fun wx hr => canI_any k v lo x wx h hr h0
  rw [decide_eq_true h1] at cC
  have cK := fun wx => clearI_any k.set wx h.set
  have cE := fun wx => endI_any k.set wx h.set
  have ec : k.c = clr k.set := rfl
  rw [ec] at h2 hf ⊢
  have hrt := fun (wq : World) (hu : Up w wq) => hr.up hu
  have hcb := h.c_bd.2.1
  rw [ec] at hcb
  have h2' : (x == ((clr k.set : Nat) : Int) + 1) = false := by simpa using h2
  by_cases hx : x = ((clr k.set : Nat) : Int)
  · rw [if_pos hx, decide_eq_true hx]
    obtain ⟨a, cap, rfl, -, -, -, -⟩ := hr
    have hx' : (x == ((clr k.set : Nat) : Int)) = true := by simpa using hx
    clear h hv hf h1 h2 hx ec
    simp only [kV, setV] at *
    generalize clr k.set = c at *
    go_enter Try.func45, Try.ntmps45
    go_wp2_with (first | ((go_at_call 35; (with_reducible refine (cV _ (hrt _ (by (repeat (first | with_reducible exact Up.refl _ | with_reducible assumption | with_reducible refine Up.set ?_ (by first | exact Nat.le_refl _ | (simp only []; omega) | (simp; omega)) _ | with_reducible refine Up.alloc ?_ _ | with_reducible refine Up.drew ?_ | refine Up.trans ?_ (by with_reducible assumption)))))).mono ?_); rintro e w1 ⟨rfl, U1⟩; have B1 := bcell U1; have Z1 := U1.size; (try simp at Z1); (try rw [Nat.add_one_le_iff] at Z1)); (try have Y1a : w.heap.size < w1.heap.size := (by omega)); (try have Y1b : w.heap.size + 1 < w1.heap.size := (by omega)); (try have Y1c : w.heap.size + 1 + 1 < w1.heap.size := (by omega)); (try have Y1d : w.heap.size + 1 + 1 + 1 < w1.heap.size := (by omega)); skip) | ((go_at_call 46; (with_reducible refine (cC _ (hrt _ (by (repeat (first | with_reducible exact Up.refl _ | with_reducible assumption | with_reducible refine Up.set ?_ (by first | exact Nat.le_refl _ | (simp only []; omega) | (simp; omega)) _ | with_reducible refine Up.alloc ?_ _ | with_reducible refine Up.drew ?_ | refine Up.trans ?_ (by with_reducible assumption)))))).mono ?_); rintro e w2 ⟨rfl, U2⟩; have B2 := bcell U2; have Z2 := U2.size; (try simp at Z2); (try rw [Nat.add_one_le_iff] at Z2)); (try have Y2a : w.heap.size < w2.heap.size := (by omega)); (try have Y2b : w.heap.size + 1 < w2.heap.size := (by omega)); (try have Y2c : w.heap.size + 1 + 1 < w2.heap.size := (by omega)); (try have Y2d : w.heap.size + 1 + 1 + 1 < w2.heap.size := (by omega)); skip) | ((go_at_call 22; (with_reducible refine (cE _).mono ?_); rintro e w3 ⟨rfl, U3⟩; have B3 := bcell U3; have Z3 := U3.size; (try simp at Z3); (try rw [Nat.add_one_le_iff] at Z3)); (try have Y3a : w.heap.size < w3.heap.size := (by omega)); (try have Y3b : w.heap.size + 1 < w3.heap.size := (by omega)); (try have Y3c : w.heap.size + 1 + 1 < w3.heap.size := (by omega)); (try have Y3d : w.heap.size + 1 + 1 + 1 < w3.heap.size := (by omega)); skip) | ((go_at_call 47; (with_reducible refine (cK _).mono ?_); rintro e w4 ⟨rfl, U4⟩; have B4 := bcell U4; have Z4 := U4.size; (try simp at Z4); (try rw [Nat.add_one_le_iff] at Z4)); (try have Y4a : w.heap.size < w4.heap.size := (by omega)); (try have Y4b : w.heap.size + 1 < w4.heap.size := (by omega)); (try have Y4c : w.heap.size + 1 + 1 < w4.heap.size := (by omega)); (try have Y4d : w.heap.size + 1 + 1 + 1 < w4.heap.size := (by omega)); skip))
    go_ret2
    refine ⟨rfl, ?_⟩
    (repeat (first | with_reducible exact Up.refl _ | with_reducible assumption | with_reducible refine Up.set ?_ (by first | exact Nat.le_refl _ | (simp only []; omega) | (simp; omega)) _ | with_reducible refine Up.alloc ?_ _ | with_reducible refine Up.drew ?_ | refine Up.trans ?_ (by with_reducible assumption)))
  · rw [if_neg hx, decide_eq_false hx]
    have cW := fun wx hr => wordJ_any k v lo x wx h hr (hf hx)
    obtain ⟨a, cap, rfl, -, -, -, -⟩ := hr
    have hx' : (x == ((clr k.set : Nat) : Int)) = false := by simpa using hx
    clear h hv hf h1 h2 hx ec
    simp only [kV, setV] at *
    generalize clr k.set = c at *
    generalize k.any x = wd at *
    go_enter Try.func45, Try.ntmps45
    go_wp2_with (first | ((go_at_call 35; (with_reducible refine (cV _ (hrt _ (by (repeat (first | with_reducible exact Up.refl _ | with_reducible assumption | with_reducible refine Up.set ?_ (by first | exact Nat.le_refl _ | (simp only []; omega) | (simp; omega)) _ | with_reducible refine Up.alloc ?_ _ | with_reducible refine Up.drew ?_ | refine Up.trans ?_ (by with_reducible assumption)))))).mono ?_); rintro e w1 ⟨rfl, U1⟩; have B1 := bcell U1; have Z1 := U1.size; (try simp at Z1); (try rw [Nat.add_one_le_iff] at Z1)); (try have Y1a : w.heap.size < w1.heap.size := (by omega)); (try have Y1b : w.heap.size + 1 < w1.heap.size := (by omega)); (try have Y1c : w.heap.size + 1 + 1 < w1.heap.size := (by omega)); (try have Y1d : w.heap.size + 1 + 1 + 1 < w1.heap.size := (by omega)); skip) | ((go_at_call 46; (with_reducible refine (cC _ (hrt _ (by (repeat (first | with_reducible exact Up.refl _ | with_reducible assumption | with_reducible refine Up.set ?_ (by first | exact Nat.le_refl _ | (simp only []; omega) | (simp; omega)) _ | with_reducible refine Up.alloc ?_ _ | with_reducible refine Up.drew ?_ | refine Up.trans ?_ (by with_reducible assumption)))))).mono ?_); rintro e w2 ⟨rfl, U2⟩; have B2 := bcell U2; have Z2 := U2.size; (try simp at Z2); (try rw [Nat.add_one_le_iff] at Z2)); (try have Y2a : w.heap.size < w2.heap.size := (by omega)); (try have Y2b : w.heap.size + 1 < w2.heap.size := (by omega)); (try have Y2c : w.heap.size + 1 + 1 < w2.heap.size := (by omega)); (try have Y2d : w.heap.size + 1 + 1 + 1 < w2.heap.size := (by omega)); skip) | ((go_at_call 22; (with_reducible refine (cE _).mono ?_); rintro e w3 ⟨rfl, U3⟩; have B3 := bcell U3; have Z3 := U3.size; (try simp at Z3); (try rw [Nat.add_one_le_iff] at Z3)); (try have Y3a : w.heap.size < w3.heap.size := (by omega)); (try have Y3b : w.heap.size + 1 < w3.heap.size := (by omega)); (try have Y3c : w.heap.size + 1 + 1 < w3.heap.size := (by omega)); (try have Y3d : w.heap.size + 1 + 1 + 1 < w3.heap.size := (by omega)); skip) | ((go_at_call 47; (with_reducible refine (cK _).mono ?_); rintro e w4 ⟨rfl, U4⟩; have B4 := bcell U4; have Z4 := U4.size; (try simp at Z4); (try rw [Nat.add_one_le_iff] at Z4)); (try have Y4a : w.heap.size < w4.heap.size := (by omega)); (try have Y4b : w.heap.size + 1 < w4.heap.size := (by omega)); (try have Y4c : w.heap.size + 1 + 1 < w4.heap.size := (by omega)); (try have Y4d : w.heap.size + 1 + 1 + 1 < w4.heap.size := (by omega)); skip) | ((go_at_call 48; (with_reducible refine (cW _ (hrt _ (by (repeat (first | with_reducible exact Up.refl _ | with_reducible assumption | with_reducible refine Up.set ?_ (by first | exact Nat.le_refl _ | (simp only []; omega) | (simp; omega)) _ | with_reducible refine Up.alloc ?_ _ | with_reducible refine Up.drew ?_ | refine Up.trans ?_ (by with_reducible assumption)))))).mono ?_); rintro e w5 ⟨rfl, U5⟩; have B5 := bcell U5; have Z5 := U5.size; (try simp at Z5); (try rw [Nat.add_one_le_iff] at Z5)); (try have Y5a : w.heap.size < w5.heap.size := (by omega)); (try have Y5b : w.heap.size + 1 < w5.heap.size := (by omega)); (try have Y5c : w.heap.size + 1 + 1 < w5.heap.size := (by omega)); (try have Y5d : w.heap.size + 1 + 1 + 1 < w5.heap.size := (by omega)); skip))
    go_ret2
    refine ⟨rfl, ?_⟩
    (repeat (first | with_reducible exact Up.refl _ | with_reducible assumption | with_reducible refine Up.set ?_ (by first | exact Nat.le_refl _ | (simp only []; omega) | (simp; omega)) _ | with_reducible refine Up.alloc ?_ _ | with_reducible refine Up.drew ?_ | refine Up.trans ?_ (by with_reducible assumption)))

set_option maxRecDepth 100000 in
set_option maxHeartbeats 4000000 in
theorem soWord_any (k : KnD) (v : Value) (lo : Nat) (x : Int) (w : World) (h : k.Ok) (hv : k.last = -1 → k.base = k.ps.length) (hr : RdP lo w v k.ps) (h0 : 0 ≤ x) (h1 : x ≤ (k.top : Int)) (h2 : x ≠ (k.c : Int) + 1) (hf : x ≠ (k.c : Int) → k.follows x = true) :
    Calls Try.prog 23  #[kV k v, .int .i64 x] w (Same (.string (bs (if x = (k.c : Int) then [] else k.any x))) w) := by
  have cW := fun wx hr => wordOfI_any k v lo x wx h hv hr h0 h1 h2 hf
  have hrt := fun (wq : World) (hu : Up w wq) => hr.up hu
  obtain ⟨a, cap, rfl, -, -, -, -⟩ := hr
  clear h hv hf h1 h2
  generalize bs (if x = (k.c : Int) then [] else k.any x) = T at *
  simp only [kV] at *
  go_enter Try.func23, Try.ntmps23
  go_wp2_with (((go_at_call 45; (with_reducible refine (cW _ (hrt _ (by (repeat (first | with_reducible exact Up.refl _ | with_reducible assumption | with_reducible refine Up.set ?_ (by first | exact Nat.le_refl _ | (simp only []; omega) | (simp; omega)) _ | with_reducible refine Up.alloc ?_ _ | with_reducible refine Up.drew ?_ | refine Up.trans ?_ (by with_reducible assumption)))))).mono ?_); rintro e w1 ⟨rfl, U1⟩; have B1 := bcell U1; have Z1 := U1.size; (try simp at Z1); (try rw [Nat.add_one_le_iff] at Z1)); (try have Y1a : w.heap.size < w1.heap.size := (by omega)); (try have Y1b : w.heap.size + 1 < w1.heap.size := (by omega)); (try have Y1c : w.heap.size + 1 + 1 < w1.heap.size := (by omega)); (try have Y1d : w.heap.size + 1 + 1 + 1 < w1.heap.size := (by omega)); skip))
  go_ret
  refine ⟨rfl, ?_⟩
  (repeat (first | with_reducible exact Up.refl _ | with_reducible assumption | with_reducible refine Up.set ?_ (by first | exact Nat.le_refl _ | (simp only []; omega) | (simp; omega)) _ | with_reducible refine Up.alloc ?_ _ | with_reducible refine Up.drew ?_ | refine Up.trans ?_ (by with_reducible assumption)))

set_option maxRecDepth 100000 in
set_option maxHeartbeats 4000000 in
theorem afterI_any (k : KnD) (v : Value) (lo : Nat) (x : Int) (w : World) (h : k.Ok) (hv : k.last = -1 → k.base = k.ps.length) (hr : RdP lo w v k.ps) (h0 : 0 ≤ x) (h1 : x ≤ (k.top : Int)) (h2 : x ≠ (k.c : Int) + 1) (hf : x ≠ (k.c : Int) → k.follows x = true) :
    Calls Try.prog 24  #[kV k v, .int .i64 x] w (KnPost2 (k.step x) w) := by
  have cV := fun wx hr => kvI_any k v lo wx h hv hr
  have cC := fun wx hr => canI_any k v lo x wx h hr h0
  rw [decide_eq_true h1] at cC
  have cK := fun wx => clearI_any k.set wx h.set
  have cE := fun wx => endI_any k.set wx h.set
  have ec : k.c = clr k.set := rfl
  have hrt := fun (wq : World) (hu : Up w wq) => hr.up hu
  have hcb := h.c_bd.2.1
  have hpl := h.nums.2.2.2.1
  rw [ec] at hcb
  have cP := fun wx hr => copyI_any k v lo wx hr (by omega)
  by_cases hx : x = (k.c : Int)
  · have e : Hid (k.step x = k.cleared) := by unfold Hid KnD.step; rw [if_pos hx]
    have cA := fun u B y wx hB ho => advC_any k u B y wx h hB ho
    have hcl : k.cleared.ps.length ≤ 1022 := (KnD.cleared_ok h).nums.2.2.2.1
    have cQ := fun u lo wx hr => copyI_any k.cleared u lo wx hr (by omega)
    rw [e.out]
    rw [ec] at h2 cA hx
    have h2' : (x == ((clr k.set : Nat) : Int) + 1) = false := by simpa using h2
    subst hx
    obtain ⟨a, cap, rfl, -, -, -, -⟩ := hr
    clear h hv hf h1 h2 ec e
    generalize k.cleared = kk at *
    simp only [kV, setV] at *
    generalize clr k.set = c at *
    go_enter Try.func24, Try.ntmps24
    go_wp2_with (first | ((go_at_call 35; (with_reducible refine (cV _ (hrt _ (by (repeat (first | with_reducible exact Up.refl _ | with_reducible assumption | with_reducible refine Up.set ?_ (by first | exact Nat.le_refl _ | (simp only []; omega) | (simp; omega)) _ | with_reducible refine Up.alloc ?_ _ | with_reducible refine Up.drew ?_ | refine Up.trans ?_ (by with_reducible assumption)))))).mono ?_); rintro e w1 ⟨rfl, U1⟩; have B1 := bcell U1; have Z1 := U1.size; (try simp at Z1); (try rw [Nat.add_one_le_iff] at Z1)); (try have Y1a : w.heap.size < w1.heap.size := (by omega)); (try have Y1b : w.heap.size + 1 < w1.heap.size := (by omega)); (try have Y1c : w.heap.size + 1 + 1 < w1.heap.size := (by omega)); (try have Y1d : w.heap.size + 1 + 1 + 1 < w1.heap.size := (by omega)); skip) | ((go_at_call 46; (with_reducible refine (cC _ (hrt _ (by (repeat (first | with_reducible exact Up.refl _ | with_reducible assumption | with_reducible refine Up.set ?_ (by first | exact Nat.le_refl _ | (simp only []; omega) | (simp; omega)) _ | with_reducible refine Up.alloc ?_ _ | with_reducible refine Up.drew ?_ | refine Up.trans ?_ (by with_reducible assumption)))))).mono ?_); rintro e w2 ⟨rfl, U2⟩; have B2 := bcell U2; have Z2 := U2.size; (try simp at Z2); (try rw [Nat.add_one_le_iff] at Z2)); (try have Y2a : w.heap.size < w2.heap.size := (by omega)); (try have Y2b : w.heap.size + 1 < w2.heap.size := (by omega)); (try have Y2c : w.heap.size + 1 + 1 < w2.heap.size := (by omega)); (try have Y2d : w.heap.size + 1 + 1 + 1 < w2.heap.size := (by omega)); skip) | ((go_at_call 22; (with_reducible refine (cE _).mono ?_); rintro e w3 ⟨rfl, U3⟩; have B3 := bcell U3; have Z3 := U3.size; (try simp at Z3); (try rw [Nat.add_one_le_iff] at Z3)); (try have Y3a : w.heap.size < w3.heap.size := (by omega)); (try have Y3b : w.heap.size + 1 < w3.heap.size := (by omega)); (try have Y3c : w.heap.size + 1 + 1 < w3.heap.size := (by omega)); (try have Y3d : w.heap.size + 1 + 1 + 1 < w3.heap.size := (by omega)); skip) | ((go_at_call 47; (with_reducible refine (cK _).mono ?_); rintro e w4 ⟨rfl, U4⟩; have B4 := bcell U4; have Z4 := U4.size; (try simp at Z4); (try rw [Nat.add_one_le_iff] at Z4)); (try have Y4a : w.heap.size < w4.heap.size := (by omega)); (try have Y4b : w.heap.size + 1 < w4.heap.size := (by omega)); (try have Y4c : w.heap.size + 1 + 1 < w4.heap.size := (by omega)); (try have Y4d : w.heap.size + 1 + 1 + 1 < w4.heap.size := (by omega)); skip) | (go_at_call 49; (with_reducible refine (cP _ (hrt _ (by (repeat (first | with_reducible exact Up.refl _ | with_reducible assumption | with_reducible refine Up.set ?_ (by first | exact Nat.le_refl _ | (simp only []; omega) | (simp; omega)) _ | with_reducible refine Up.alloc ?_ _ | with_reducible refine Up.drew ?_ | refine Up.trans ?_ (by with_reducible assumption)))))).mono ?_); rintro e w6 ⟨v6, rfl, ho6, U6⟩; obtain ⟨a6, c6, rfl⟩ := ownsRow_shape ho6; simp only [kV]; have Z6 := U6.size) | (go_at_call 50; (with_reducible refine (cA _ _ _ _ U6.size ho6).mono ?_); rintro e w7 ⟨v7, rfl, ho7, hF7⟩; obtain ⟨a7, c7, rfl⟩ := ownsRow_shape ho7; simp only [kV]; have U7 := Fr.upto U6 hF7 (fun b hb => (ho6.lt b hb).1); have Z7 := U7.size) | (go_at_call 49; (with_reducible refine (cQ _ _ _ (RdP.of_own ho7)).mono ?_); rintro e w8 ⟨v8, rfl, ho8, U8⟩; obtain ⟨a8, c8, rfl⟩ := ownsRow_shape ho8; simp only [kV]; have hRB := box_up (U1.trans (U2.trans (U3.trans (U4.trans (U7.trans U8))))) (alloc2 w (.cells #[.int .i64 k.set.ord, .int .i64 k.set.lit, .int .i64 k.set.most, .slice a k.ps.length cap, .int .i64 k.base, .int .i64 k.last] 31) (.cells #[.int .i64 0, .int .i64 0, .int .i64 0, .slice none 0 0, .int .i64 0, .int .i64 0] 31)); obtain ⟨hb0, s0, s1, s2, s3, s4, s5⟩ := KnAt.cells (k := ⟨⟨0, 0, 0⟩, [], 0, 0⟩) hRB; have hfr := box_free hRB; have HO := Lib.hid ho8; clear ho8))
    refine bodyPost_ret (v := .tuple #[kV kk (.slice a8 kk.ps.length c8), .bool true]) (by simp [results, Try.results24, go_sem, hb0, s0, s1, s2, s3, s4, s5]) rfl ⟨_, rfl, ?_, ?_⟩
    · refine ownsRow_base (base := w.heap.size + 2) ?_ (by omega)
      repeat (with_reducible refine ownsRow_setne ?_ (by omega) _ _)
      exact ownsRow_base HO.out (by omega)
    · (repeat (first | with_reducible exact Up.refl _ | with_reducible assumption | with_reducible refine Up.set ?_ (by first | exact Nat.le_refl _ | (simp only []; omega) | (simp; omega)) _ | with_reducible refine Up.alloc ?_ _ | with_reducible refine Up.drew ?_ | refine Up.trans ?_ (by with_reducible assumption)))
  · have e : Hid (k.step x = k.after x) := by unfold Hid KnD.step; rw [if_neg hx]
    have hff := hf hx
    have cA := fun u B wx hB ho => advW_any k u B x wx h hB ho hff hx
    have cW := fun wx hr => wordJ_any k v lo x wx h hr hff
    have hal : (k.after x).ps.length ≤ 1022 := (KnD.after_ok h hff).nums.2.2.2.1
    have cQ := fun u lo wx hr => copyI_any (k.after x) u lo wx hr (by omega)
    have hap := KnD.any_pos h hff
    have hbl := bs_size (k.any x)
    have HFX : Hid (∀ h, (((bs (k.any x))[0]'h).toNat : Int) = k.first x) := fun h => by rw [bs_get0]; rfl
    rw [e.out]
    rw [ec] at h2 hx
    have h2' : (x == ((clr k.set : Nat) : Int) + 1) = false := by simpa using h2
    have hx' : (x == ((clr k.set : Nat) : Int)) = false := by simpa using hx
    obtain ⟨a, cap, rfl, -, -, -, -⟩ := hr
    clear h hv hf h1 h2 ec e hff hx
    generalize k.after x = kk at *
    generalize k.any x = wd at *
    generalize k.first x = fx at *
    have hfx := HFX.out
    simp only [kV, setV] at *
    generalize clr k.set = c at *
    go_enter Try.func24, Try.ntmps24
    go_wp2_with (first | ((go_at_call 35; (with_reducible refine (cV _ (hrt _ (by (repeat (first | with_reducible exact Up.refl _ | with_reducible assumption | with_reducible refine Up.set ?_ (by first | exact Nat.le_refl _ | (simp only []; omega) | (simp; omega)) _ | with_reducible refine Up.alloc ?_ _ | with_reducible refine Up.drew ?_ | refine Up.trans ?_ (by with_reducible assumption)))))).mono ?_); rintro e w1 ⟨rfl, U1⟩; have B1 := bcell U1; have Z1 := U1.size; (try simp at Z1); (try rw [Nat.add_one_le_iff] at Z1)); (try have Y1a : w.heap.size < w1.heap.size := (by omega)); (try have Y1b : w.heap.size + 1 < w1.heap.size := (by omega)); (try have Y1c : w.heap.size + 1 + 1 < w1.heap.size := (by omega)); (try have Y1d : w.heap.size + 1 + 1 + 1 < w1.heap.size := (by omega)); skip) | ((go_at_call 46; (with_reducible refine (cC _ (hrt _ (by (repeat (first | with_reducible exact Up.refl _ | with_reducible assumption | with_reducible refine Up.set ?_ (by first | exact Nat.le_refl _ | (simp only []; omega) | (simp; omega)) _ | with_reducible refine Up.alloc ?_ _ | with_reducible refine Up.drew ?_ | refine Up.trans ?_ (by with_reducible assumption)))))).mono ?_); rintro e w2 ⟨rfl, U2⟩; have B2 := bcell U2; have Z2 := U2.size; (try simp at Z2); (try rw [Nat.add_one_le_iff] at Z2)); (try have Y2a : w.heap.size < w2.heap.size := (by omega)); (try have Y2b : w.heap.size + 1 < w2.heap.size := (by omega)); (try have Y2c : w.heap.size + 1 + 1 < w2.heap.size := (by omega)); (try have Y2d : w.heap.size + 1 + 1 + 1 < w2.heap.size := (by omega)); skip) | ((go_at_call 22; (with_reducible refine (cE _).mono ?_); rintro e w3 ⟨rfl, U3⟩; have B3 := bcell U3; have Z3 := U3.size; (try simp at Z3); (try rw [Nat.add_one_le_iff] at Z3)); (try have Y3a : w.heap.size < w3.heap.size := (by omega)); (try have Y3b : w.heap.size + 1 < w3.heap.size := (by omega)); (try have Y3c : w.heap.size + 1 + 1 < w3.heap.size := (by omega)); (try have Y3d : w.heap.size + 1 + 1 + 1 < w3.heap.size := (by omega)); skip) | ((go_at_call 47; (with_reducible refine (cK _).mono ?_); rintro e w4 ⟨rfl, U4⟩; have B4 := bcell U4; have Z4 := U4.size; (try simp at Z4); (try rw [Nat.add_one_le_iff] at Z4)); (try have Y4a : w.heap.size < w4.heap.size := (by omega)); (try have Y4b : w.heap.size + 1 < w4.heap.size := (by omega)); (try have Y4c : w.heap.size + 1 + 1 < w4.heap.size := (by omega)); (try have Y4d : w.heap.size + 1 + 1 + 1 < w4.heap.size := (by omega)); skip) | ((go_at_call 48; (with_reducible refine (cW _ (hrt _ (by (repeat (first | with_reducible exact Up.refl _ | with_reducible assumption | with_reducible refine Up.set ?_ (by first | exact Nat.le_refl _ | (simp only []; omega) | (simp; omega)) _ | with_reducible refine Up.alloc ?_ _ | with_reducible refine Up.drew ?_ | refine Up.trans ?_ (by with_reducible assumption)))))).mono ?_); rintro e w5 ⟨rfl, U5⟩; have B5 := bcell U5; have Z5 := U5.size; (try simp at Z5); (try rw [Nat.add_one_le_iff] at Z5)); (try have Y5a : w.heap.size < w5.heap.size := (by omega)); (try have Y5b : w.heap.size + 1 < w5.heap.size := (by omega)); (try have Y5c : w.heap.size + 1 + 1 < w5.heap.size := (by omega)); (try have Y5d : w.heap.size + 1 + 1 + 1 < w5.heap.size := (by omega)); skip) | (go_at_call 49; (with_reducible refine (cP _ (hrt _ (by (repeat (first | with_reducible exact Up.refl _ | with_reducible assumption | with_reducible refine Up.set ?_ (by first | exact Nat.le_refl _ | (simp only []; omega) | (simp; omega)) _ | with_reducible refine Up.alloc ?_ _ | with_reducible refine Up.drew ?_ | refine Up.trans ?_ (by with_reducible assumption)))))).mono ?_); rintro e w6 ⟨v6, rfl, ho6, U6⟩; obtain ⟨a6, c6, rfl⟩ := ownsRow_shape ho6; simp only [kV]; have Z6 := U6.size) | (go_at_call 50; (with_reducible refine (cA _ _ _  U6.size ho6).mono ?_); rintro e w7 ⟨v7, rfl, ho7, hF7⟩; obtain ⟨a7, c7, rfl⟩ := ownsRow_shape ho7; simp only [kV]; have U7 := Fr.upto U6 hF7 (fun b hb => (ho6.lt b hb).1); have Z7 := U7.size) | (go_at_call 49; (with_reducible refine (cQ _ _ _ (RdP.of_own ho7)).mono ?_); rintro e w8 ⟨v8, rfl, ho8, U8⟩; obtain ⟨a8, c8, rfl⟩ := ownsRow_shape ho8; simp only [kV]; have hRB := box_up (U1.trans (U2.trans (U3.trans (U4.trans (U5.trans (U7.trans U8)))))) (alloc2 w (.cells #[.int .i64 k.set.ord, .int .i64 k.set.lit, .int .i64 k.set.most, .slice a k.ps.length cap, .int .i64 k.base, .int .i64 k.last] 31) (.cells #[.int .i64 0, .int .i64 0, .int .i64 0, .slice none 0 0, .int .i64 0, .int .i64 0] 31)); obtain ⟨hb0, s0, s1, s2, s3, s4, s5⟩ := KnAt.cells (k := ⟨⟨0, 0, 0⟩, [], 0, 0⟩) hRB; have hfr := box_free hRB; have HO := Lib.hid ho8; clear ho8))
    refine bodyPost_ret (v := .tuple #[kV kk (.slice a8 kk.ps.length c8), .bool true]) (by simp [results, Try.results24, go_sem, hb0, s0, s1, s2, s3, s4, s5]) rfl ⟨_, rfl, ?_, ?_⟩
    · refine ownsRow_base (base := w.heap.size + 2) ?_ (by omega)
      repeat (with_reducible refine ownsRow_setne ?_ (by omega) _ _)
      exact ownsRow_base HO.out (by omega)
    · (repeat (first | with_reducible exact Up.refl _ | with_reducible assumption | with_reducible refine Up.set ?_ (by first | exact Nat.le_refl _ | (simp only []; omega) | (simp; omega)) _ | with_reducible refine Up.alloc ?_ _ | with_reducible refine Up.drew ?_ | refine Up.trans ?_ (by with_reducible assumption)))

end Go.Proofs.Ytbimdjlcjcdbnaa

