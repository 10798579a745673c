/- Texts joined into one: the walks and laws that the last text leans on. Conditions: as each says. -/
import Derived.Test.YtekbbnkkninolaaGreatMFnReadDamagedLawC
import Derived.Test.YtekbbnkkninolaaGreatRn
import Derived.Test.YtekbbnkkninolaaGreatCopy
import Derived.Test.YtekbbnkkninolaaGreatComp

/- Walks of the reference's l1Unpack and UnpackCodes. Conditions: what is known is valid and can be read; the string's length is bounded. -/
namespace Go.Proofs.YtekbbnkkninolaaGreat
set_option linter.unusedVariables false
set_option linter.unusedSimpArgs false
open Go Go.RowKit

theorem mk_u8 (n : Nat) (hn : n ≤ 1048576) (w : World) : (Instr.makeSlice 38 (.int .i64 0) (.int .i64 (n : Int))).run Tryz.prog w = .ok (.slice (some ⟨w.heap.size, 0, none⟩) 0 n) (w.alloc (.cells (madeCells #[.int .u8 0] n) 5)) := by
  obtain ⟨i0, hi0, hz0, hz1, hz2⟩ := info_parts infoByte
  have := run_make (P := Tryz.prog) w 38 5 i0 _ Tryz.underlying38 hi0 hz0 .i64 .i64 0 n (by omega) (by omega) (by rw [hz2]; omega) (by omega)
  rw [hz1] at this
  simpa [Value.cells] using this
theorem own_mk0 {w : World} {base n : Nat} (hb : base ≤ w.heap.size) (hn : n ≤ maxLen) : ownU (w.alloc (.cells (madeCells #[.int .u8 0] n) 5)) base (.slice (some ⟨w.heap.size, 0, none⟩) 0 n) [] :=
  World.ownsRow_made w _ n hb hn (by simp [madeCells])
theorem unpackL_take (o : Int) {s : List UInt8} {i : Nat} (h : i < s.length) : unpackL o (s.take (i + 1)) = unpackL o (s.take i) ++ codeL o (s[i]).toNat 8 := by
  rw [List.take_succ_eq_append_getElem h, unpackL_snoc]
def RelUn1 (o : Int) (s : List UInt8) (w : World) (out i : Value) (wr : World) : Prop := ∃ n : Nat, i = .int .i64 n ∧ n ≤ s.length ∧ ownU wr w.heap.size out (unpackL o (s.take n)) ∧ Up w wr

set_option maxRecDepth 100000 in
set_option maxHeartbeats 4000000 in
theorem l1Unpack_any (o : Int) (s : ByteArray) (w : World) (hs : s.size ≤ 4000) :
    Calls Tryz.prog 197  #[.int .i64 o, .string s] w (Same (.string (bs (unpackL o s.data.toList))) w) := by
  have hlen := ba_len s
  have hmk := mk_u8 (8 * s.size) (by omega)
  have e1 : Hid (((8 * s.size : Nat) : Int) = 8 * (s.size : Int)) := by unfold Hid; omega
  rw [e1.out] at hmk
  go_enter Tryz.func197, Tryz.ntmps197
  go_wp2
  go_loopw [5, 6] (fun out i wr => RelUn1 o s.data.toList w out i wr) (fun _ i _ => s.size - (intOf i).toNat)
  case atStart => exact ⟨0, rfl, Nat.zero_le _, by rw [List.take_zero]; exact own_mk0 (Nat.le_refl _) (by unfold maxLen; omega), by (repeat (first | with_reducible exact Up.refl _ | with_reducible assumption | with_reducible refine Up.set ?_ (by first | exact Nat.le_refl _ | (simp only []; omega) | (simp; omega)) _ | with_reducible refine Up.alloc ?_ _ | with_reducible refine Up.drew ?_ | refine Up.trans ?_ (by with_reducible assumption)))⟩
  case round =>
    clear hmk
    obtain ⟨n, rfl, hle, hown, hup⟩ := hrel
    obtain ⟨a, c, rfl⟩ := ownsRow_shape hown
    have HO := Lib.hid hown
    have HU := Lib.hid hup
    have hul : (unpackL o (s.data.toList.take n)).length ≤ 32000 := by rw [unpackL_length, List.length_take]; omega
    by_cases hlt : n < s.size
    · have hlt2 : n < s.data.toList.length := by omega
      have hu := u8_bd s[n]
      have HS : Hid (unpackL o (s.data.toList.take (n + 1)) = unpackL o (s.data.toList.take n) ++ codeL o (s[n]).toNat 8) := unpackL_take o hlt2
      have cC : ∀ wx, Calls Tryz.prog 194  #[.int .i64 o, .int .i64 ((s[n]).toNat : Nat), .int .i64 8] wx (Same (.string (bs (codeL o (s[n]).toNat 8))) wx) := fun wx => l1Code_any o (s[n]).toNat 8 wx (by omega) (by omega)
      have hcl8 : (codeL o (s[n]).toNat 8).length ≤ 8 := by rw [codeL_length]; exact Nat.le_refl _
      generalize codeL o (s[n]).toNat 8 = cl at *
      generalize unpackL o (s.data.toList.take n) = d at *
      clear hown
      have hd : d.length ≤ 1048576 := by omega
      go_wp2_with (first | (go_at_call 194; (with_reducible refine (cC _).mono ?_); rintro e w1 ⟨rfl, U1⟩; have B1 := bcell U1; have Z1 := U1.size; (try simp at Z1); (try rw [Nat.add_one_le_iff] at Z1)) | (at_builtin; refine wpList_append_str rfl _ _ rfl w.heap.size _ d cl rfl (ownsRow_up HO.out U1) rfl (by omega) (by omega) (by have := HU.out.size; have := U1.size; omega) ?_; rintro v2 w2 ho2 hg2))
      go_roundw
      case rel => exact ⟨n + 1, by go_num, by omega, by rw [HS.out]; exact ho2, (HU.out.trans U1).grown hg2 (fun x hx => (HO.out.lt x hx).1)⟩
      case measure => simp [intOf]; omega
    · have HT : Hid (s.data.toList.take n = s.data.toList) := List.take_of_length_le (by omega)
      have cv := conv_any hown rfl
      clear hown
      go_wp2
      go_ret
      exact ⟨ret_str (by rw [HT.out]), hup⟩

/-- What reading the codes of a stream gives. -/
structure UnR where
  codes : List Int
  fin : Int
  used : Nat
def unpK (k : KnD) (s : List UInt8) : UnR := if s.length ≤ 4000 then ⟨(readS k s).codes, (readS k s).fin, usedS s (readS k s)⟩ else ⟨[], 4, 0⟩
def UnPost (U : UnR) (w : World) (e : Ending) (w' : World) : Prop := ∃ vc, e = .returned (.tuple #[vc, .int .i64 U.fin, .int .i64 U.used]) ∧ ownI w' w.heap.size vc U.codes ∧ Up w w'

/-- The memory of UnpackCodes. -/
structure UnB (lo : Nat) (w : World) (k : KnD) (v : Value) (cs : List Int) (vc : Value) (wr : World) : Prop where
  kn : KnAt w.heap.size k v wr
  pr : RdP lo w v k.ps ∨ ownPr wr (w.heap.size + 1) v k.ps
  own : ownI wr (w.heap.size + 1) vc cs
  up : Up w wr
theorem UnB.upd {lo : Nat} {w : World} {k : KnD} {v : Value} {cs : List Int} {vc : Value} {wr w' : World} (h : UnB lo w k v cs vc wr) (hu : Up wr w') : UnB lo w k v cs vc w' :=
  ⟨h.kn.up hu, h.pr.imp id fun h => ownsRow_up h hu, ownsRow_up h.own hu, h.up.trans hu⟩
theorem UnB.rd {lo : Nat} {w : World} {k : KnD} {v : Value} {cs : List Int} {vc : Value} {wr : World} (h : UnB lo w k v cs vc wr) : RdP 0 wr v k.ps := by
  rcases h.pr with h1 | h1
  · exact (h1.up h.up).low (Nat.zero_le _)
  · exact (RdP.of_own h1).low (Nat.zero_le _)
theorem UnB.ints {lo : Nat} {w : World} {k : KnD} {v : Value} {cs cs' : List Int} {vc vc' : Value} {wr w' : World} (h : UnB lo w k v cs vc wr) (hg : wr.grownBy w' vc.ownBlock) (hn : ownI w' (w.heap.size + 1) vc' cs') : UnB lo w k v cs' vc' w' :=
  ⟨h.kn.gr hg (low_ne (w := w) h.own (by omega)), h.pr.imp id fun h1 => h1.kept hg (rows_ne h1 h.own (by decide)), hn, h.up.grown hg fun y hy => by have := (h.own.lt y hy).1; omega⟩
theorem UnB.stored {lo : Nat} {w : World} {k k' : KnD} {v v' : Value} {cs : List Int} {vc : Value} {wr : World} (h : UnB lo w k v cs vc wr) (hp : ownPr wr (w.heap.size + 1) v' k'.ps) : UnB lo w k' v' cs vc (KnW wr w.heap.size k' v') :=
  ⟨KnAt.store h.kn k' v', .inr (KnW.own hp (low_ne (w := w) hp (by omega)) k' v'), KnW.own h.own (low_ne (w := w) h.own (by omega)) k' v', KnW.up h.up (Nat.le_refl _) k' v'⟩
/-- Its plain state. -/
structure UnD (T : RdR) (o : Int) (bits : List UInt8) (k0 : KnD) (m : Nat) (k : KnD) (p : Nat) (cs : List Int) (d : List UInt8) : Prop where
  inv : RdInv bits 0 k0 k p cs d
  tot : readN o bits 0 0 m k p cs d = T
  len : bits.length ≤ p + m
  cl : cs.length < 3100
def RelUn (T : RdR) (o : Int) (bits : List UInt8) (k0 : KnD) (lo : Nat) (w : World) (vc vp vs : Value) (wr : World) : Prop := ∃ (k : KnD) (v : Value) (p m : Nat) (cs : List Int) (d : List UInt8), vp = .int .i64 p ∧ vs = .int .i64 d.length ∧ UnD T o bits k0 m k p cs d ∧ UnB lo w k v cs vc wr

theorem ownI_len' {w : World} {base : Nat} {a : Option Addr} {n c : Nat} {l : List Int} (h : w.ownsRow base 3 1 (.slice a n c) l.length (cellsI l)) (hn : l.length = n) : ownI w base (.slice a n c) l := h
theorem bs_sub (l : List UInt8) (p n : Nat) : (bs l).extract p (p + n) = bs ((l.drop p).take n) := by rw [bs_ext, Nat.add_sub_cancel_left]

set_option maxRecDepth 100000 in
set_option maxHeartbeats 8000000 in
theorem unpS_any (k : KnD) (v : Value) (lo : Nat) (s : ByteArray) (w : World) (h : k.Ok) (hv : k.last = -1 → k.base = k.ps.length) (hr : RdP lo w v k.ps) (hs : s.size ≤ 1073741824) :
    Calls Tryz.prog 174  #[kV k v, .string s] w (UnPost (unpK k s.data.toList) w) := by
  have cV := fun wx hr => kvS_any k v lo wx h hv hr
  have hrt := fun (wq : World) (hu : Up w wq) => hr.up hu
  have hlen := ba_len s
  unfold unpK
  by_cases h4 : s.size ≤ 4000
  case neg =>
    rw [if_neg (by omega)]
    obtain ⟨a, cap, rfl, -, -, -, -⟩ := hr
    clear h hv
    simp only [kV] at *
    go_enter Tryz.func174, Tryz.ntmps174
    go_wp2_with ((go_at_call 131; (with_reducible refine (cV _ (hrt _ (by (repeat (first | with_reducible exact Up.refl _ | with_reducible assumption | with_reducible refine Up.set ?_ (by first | exact Nat.le_refl _ | (simp only []; omega) | (simp; omega)) _ | with_reducible refine Up.alloc ?_ _ | with_reducible refine Up.drew ?_ | refine Up.trans ?_ (by with_reducible assumption)))))).mono ?_); rintro e w1 ⟨rfl, U1⟩; have B1 := bcell U1; have Z1 := U1.size; (try simp at Z1); (try rw [Nat.add_one_le_iff] at Z1)))
    refine bodyPost_ret (v := .tuple #[.slice (some ⟨w.heap.size + 1, 0, none⟩) 0 0, .int .i64 4, .int .i64 0]) (by simp [results, Tryz.results174, go_sem]) rfl ?_
    exact ⟨_, rfl, ownsRow_up (own_mt (by simp) (by simp)) U1, by (repeat (first | with_reducible exact Up.refl _ | with_reducible assumption | with_reducible refine Up.set ?_ (by first | exact Nat.le_refl _ | (simp only []; omega) | (simp; omega)) _ | with_reducible refine Up.alloc ?_ _ | with_reducible refine Up.drew ?_ | refine Up.trans ?_ (by with_reducible assumption)))⟩
  case pos =>
    rw [if_pos (by omega)]
    obtain ⟨i0, hi, hz0, hz1, hz2⟩ := info_parts infoIntG
    have cU := fun wx => l1Unpack_any k.set.ord s wx h4
    obtain ⟨T, hT⟩ : ∃ T, T = readS k s.data.toList := ⟨_, rfl⟩
    rw [← hT]
    have HT : Hid (readN k.set.ord (unpackL k.set.ord s.data.toList) 0 0 (8 * s.size) k 0 [] [] = T) := by unfold Hid; rw [hT, ← hlen]; rfl
    have hbl := unpackL_length k.set.ord s.data.toList
    rw [hlen] at hbl
    have HBL := Lib.hid hbl
    have hbl2 : (unpackL k.set.ord s.data.toList).length ≤ 32000 := by omega
    have hib := isBits_unpack k.set.ord s.data.toList
    have HK := Lib.hid h
    generalize unpackL k.set.ord s.data.toList = bits at *
    have HIB := Lib.hid hib
    obtain ⟨a, cap, rfl, -, -, -, -⟩ := id hr
    clear h hv hT hib hbl
    simp only [kV] at *
    go_enter Tryz.func174, Tryz.ntmps174
    go_wp2_with (first | (go_at_call 131; (with_reducible refine (cV _ (hrt _ (by (repeat (first | with_reducible exact Up.refl _ | with_reducible assumption | with_reducible refine Up.set ?_ (by first | exact Nat.le_refl _ | (simp only []; omega) | (simp; omega)) _ | with_reducible refine Up.alloc ?_ _ | with_reducible refine Up.drew ?_ | refine Up.trans ?_ (by with_reducible assumption)))))).mono ?_); rintro e w1 ⟨rfl, U1⟩; have B1 := bcell U1; have Z1 := U1.size; (try simp at Z1); (try rw [Nat.add_one_le_iff] at Z1)) | ((go_at_call 197; (with_reducible refine (cU _).mono ?_); rintro e w2 ⟨rfl, U2⟩; have B2 := bcell U2; have Z2 := U2.size; (try simp at Z2); (try rw [Nat.add_one_le_iff] at Z2))))
    have HB2 : Hid (UnB lo w k (.slice a k.ps.length cap) [] (.slice (some ⟨w.heap.size + 1, 0, none⟩) 0 0) w2) := ⟨box_up (U1.trans U2) (box_up ((Up.refl _).alloc _) (MapKept.heap_alloc w _).1), .inl hr, ownsRow_up (own_mt (by simp) (by simp)) (U1.trans U2), by (repeat (first | with_reducible exact Up.refl _ | with_reducible assumption | with_reducible refine Up.set ?_ (by first | exact Nat.le_refl _ | (simp only []; omega) | (simp; omega)) _ | with_reducible refine Up.alloc ?_ _ | with_reducible refine Up.drew ?_ | refine Up.trans ?_ (by with_reducible assumption)))⟩
    have hbz := bs_size bits
    clear hrt cV cU
    go_loopw [7, 8, 9] (fun vc vp vs wr => RelUn T k.set.ord bits k lo w vc vp vs wr) (fun _ p _ _ => bits.length - (intOf p).toNat)
    case atStart => exact ⟨k, _, 0, 8 * s.size, [], [], rfl, rfl, ⟨RdInv.start HK.out (by omega), HT.out, by have := HBL.out; omega, by simp⟩, HB2.out⟩
    case round =>
      clear HB2 U1 U2 B1 B2 Z1 Z2
      obtain ⟨k', v', p, m, cs, d, rfl, rfl, hD, hB⟩ := hrel
      have HD := Lib.hid hD
      have HB := Lib.hid hB
      have hok := hD.inv.ok
      obtain ⟨a', c', rfl, -, -, -, -⟩ := hB.rd
      obtain ⟨aw, cw, rfl⟩ := ownsRow_shape hB.own
      obtain ⟨bk, r0, r1, r2, r3, r4, r5⟩ := hB.kn.cells
      have hdl := hD.inv.dl
      have hcl := hD.cl
      have hpl := hD.inv.pos
      have hlm := hD.len
      have hset := hD.inv.set
      have HSET := Lib.hid hset
      have hord : Hid (k'.set.ord = k.set.ord) := by unfold Hid; rw [hset]
      have cWd := fun wx hr => l2Width_any k' (.slice a' k'.ps.length c') 0 wx hok hr
      have cE := fun wx => l1End_any k'.set wx hok.set
      have cK := fun wx => l1Clear_any k'.set wx hok.set
      obtain ⟨hb1, hb2, -, -, -⟩ := hok.nums
      have hwd := KnD.width_bd hok
      have hwd1 := hwd.1
      have hwd2 := hwd.2
      clear hD hB hwd hset
      by_cases hsh : bits.length < p + k'.width
      · have HR : Hid (T = ⟨k', cs, d, 1, p⟩) := by unfold Hid; rw [← HD.out.tot, readN_short hsh]
        generalize k'.width = wd at *
        go_wp2_with ((go_at_call 198; (with_reducible refine (cWd _ HB.out.rd).mono ?_); rintro e w3 ⟨rfl, U3⟩; have B3 := bcell U3; have Z3 := U3.size; (try simp at Z3); (try rw [Nat.add_one_le_iff] at Z3)))
        refine bodyPost_ret (v := .tuple #[.slice aw cs.length cw, .int .i64 1, .int .i64 s.size]) (by simp [results, Tryz.results174, go_sem]) rfl ?_
        rw [HR.out]
        exact ⟨_, by unfold usedS; rw [hlen]; rfl, ownsRow_base (HB.out.upd U3).own (Nat.le_succ _), (HB.out.upd U3).up⟩
      · obtain ⟨x, hx⟩ : ∃ x, codeAt k.set.ord bits p k'.width = x := ⟨_, rfl⟩
        have hxb := codeAt_bd (o := k.set.ord) HIB.out (p := p) (by omega : k'.width ≤ 16)
        rw [hx] at hxb
        have HX := Lib.hid hx
        have hsub := bs_sub bits p k'.width
        have cN := fun wx => l1Number_any k'.set.ord ((bs bits).extract p (p + k'.width)) wx (by rw [hsub, bs_data]; exact (HIB.out.drop _).take _) (by rw [hsub, bs_size, List.length_take]; omega)
        have hnum : numL k'.set.ord ((bs bits).extract p (p + k'.width)).data.toList = x := by rw [hsub, bs_data, hord.out]; exact hx
        rw [hnum] at cN
        obtain ⟨m', rfl⟩ : ∃ m', m = m' + 1 := ⟨m - 1, by omega⟩
        have HSH := Lib.hid hsh
        have hxc := hok.c_bd
        have HOK := Lib.hid hok
        clear hsub hnum hx hlm
        generalize hwe : k'.width = wd at *
        clear hok
        go_wp2_with ((go_at_call 198; (with_reducible refine (cWd _ HB.out.rd).mono ?_); rintro e w3 ⟨rfl, U3⟩; have B3 := bcell U3; have Z3 := U3.size; (try simp at Z3); (try rw [Nat.add_one_le_iff] at Z3)))
        refine wp_region_up 12 (by kernel_rfl) (by kernel_rfl) ?_
        simp only [List.take, List.drop]
        repeat (refine wpUp_step (fun K hK => ?_); go_simp; (try simp only [↓IntWalk.iteOmega]); first
          | (refine hK _ _ ?_; clear hK K)
          | (apply stepU_c
             · intro wq hwq; (have hbq := bcell hwq; (repeat (first | refine fills_no (by rfl) ?_ | refine fills_yes (by rfl) (fun vq hvq => ?_))); simp only [List.filter_nil, fills]; unfold upAt; (try ((obtain ⟨-, r0, r1, r2, r3, r4, r5⟩ := ((HB.out.upd U3).upd hwq).kn.cells))); go_simp; (try go_bits); (try simp only [↓IntWalk.iteOmega]); (try (rw [dif_pos (by omega)]; go_simp; try go_bits)); first | exact upOut_value | (apply upOut_call; (go_at_call 198; exact cWd _ ((HB.out.upd U3).upd hwq).rd)) | (apply upOut_eq; (go_at_call 198; exact cWd _ ((HB.out.upd U3).upd hwq).rd)) | (apply upOut_call; (go_at_call 193; exact cN _)) | (apply upOut_eq; (go_at_call 193; exact cN _)))
             go_simp; refine hK _ _ ?_; clear hK K))
        refine wpUp_nil (fun wq hwq => ?_)
        simp only [fills]

        have hBq := (HB.out.upd U3).upd hwq
        obtain ⟨hbq1, r0, r1, r2, r3, r4, r5⟩ := hBq.kn.cells
        have HBQ := Lib.hid hBq
        have HWE := Lib.hid hwe
        have hxc' : k'.c = clr k'.set := rfl
        clear hBq hwq U3 B3 Z3 HB cN hwe hsh bk
        by_cases hx1 : x = (clr k'.set : Int) + 1
        · have HR : Hid (T = ⟨k', cs ++ [x], d, 0, p + wd⟩) := by
            unfold Hid; rw [← HD.out.tot, readN_end (x := x) (by rw [HWE.out]; exact HX.out) (by rw [HWE.out]; exact HSH.out) hx1, HWE.out]
          subst hx1
          go_wp2_with (first | ((go_at_call 198; (with_reducible refine (cWd _ HBQ.out.rd).mono ?_); rintro e w4 ⟨rfl, U4⟩; have B4 := bcell U4; have Z4 := U4.size; (try simp at Z4); (try rw [Nat.add_one_le_iff] at Z4)); obtain ⟨hb4, r0, r1, r2, r3, r4, r5⟩ := (HBQ.out.upd U4).kn.cells) | ((go_at_call 159; (with_reducible refine (cE _).mono ?_); rintro e w5 ⟨rfl, U5⟩; have B5 := bcell U5; have Z5 := U5.size; (try simp at Z5); (try rw [Nat.add_one_le_iff] at Z5)); obtain ⟨hb5, r0, r1, r2, r3, r4, r5⟩ := ((HBQ.out.upd U4).upd U5).kn.cells) | (at_builtin; refine wpList_append_own _ rfl _ _ 54 rfl (w.heap.size + 1) 3 i0 (.int .i64 0) 1 8 Tryz.underlying54 hi hz0 hz1 hz2 rfl (by decide) _ _ _ rfl (ownsRow_up ((HBQ.out.upd U4).upd U5).own (Up.alloc (Up.refl _) _)) ⟨w5.heap.size, 0, none⟩ 1 1 [.int .i64 ((clr k'.set : Int) + 1)] rfl rfl (new_cells [.int .i64 ((clr k'.set : Int) + 1)] _ rfl) (by intro u hu; simp at hu; subst hu; rfl) (by unfold maxLen; omega) (by omega) (by have := ((HBQ.out.upd U4).upd U5).kn.cells.1; simp; omega) ?_; rintro v12 w12 hown12 hgr12 -; obtain ⟨a12, c12, rfl⟩ := ownsRow_shape hown12; have hb12 := (((HBQ.out.upd U4).upd U5).upd (Up.alloc (Up.refl _) _)).ints hgr12 (ownI_snoc hown12); obtain ⟨hbs12, r0, r1, r2, r3, r4, r5⟩ := hb12.kn.cells; have hfr12 := box_free hb12.kn; have HB12 := Lib.hid hb12; clear hb12 hown12 hgr12))
          refine bodyPost_ret (v := .tuple #[.slice a12 (cs.length + 1) c12, .int .i64 0, .int .i64 (((p : Int) + wd + 7) / 8)]) (by simp [results, Tryz.results174, go_sem]) rfl ?_
          rw [HR.out]
          exact ⟨_, rfl, ownsRow_base (ownI_len' HB12.out.own (by simp)) (Nat.le_succ _), HB12.out.up⟩
        · have hne1 : (x == (clr k'.set : Int) + 1) = false := by simpa using hx1
          have HX1 : Hid (x ≠ (k'.c : Int) + 1) := hx1
          clear hx1
          by_cases hx2 : x = (clr k'.set : Int)
          · have HX2 : Hid (x = (k'.c : Int)) := hx2
            have cSt := fun wx hr => l2Step_any k' (.slice a' k'.ps.length c') 0 x wx HOK.out hr (fun h => absurd hx2 h)
            have ek : k'.step x = k'.cleared := if_pos hx2
            rw [ek] at cSt
            have HX2' := Lib.hid hx2
            clear ek hx2
            obtain rfl : x = (clr k'.set : Int) := HX2'.out
            by_cases h5 : cs.length + 1 = 3100
            · have HR : Hid (T = ⟨k'.cleared, cs ++ [(clr k'.set : Int)], d, 3, p + wd⟩) := by
                unfold Hid; rw [← HD.out.tot, readN_clearL (x := (clr k'.set : Int)) (by rw [HWE.out]; exact HX.out) (by rw [HWE.out]; exact HSH.out) rfl (by omega), HWE.out]
              go_wp2_with (first | ((go_at_call 198; (with_reducible refine (cWd _ HBQ.out.rd).mono ?_); rintro e w4 ⟨rfl, U4⟩; have B4 := bcell U4; have Z4 := U4.size; (try simp at Z4); (try rw [Nat.add_one_le_iff] at Z4)); obtain ⟨hb4, r0, r1, r2, r3, r4, r5⟩ := (HBQ.out.upd U4).kn.cells) | ((go_at_call 159; (with_reducible refine (cE _).mono ?_); rintro e w5 ⟨rfl, U5⟩; have B5 := bcell U5; have Z5 := U5.size; (try simp at Z5); (try rw [Nat.add_one_le_iff] at Z5)); obtain ⟨hb5, r0, r1, r2, r3, r4, r5⟩ := ((HBQ.out.upd U4).upd U5).kn.cells) | ((go_at_call 141; (with_reducible refine (cK _).mono ?_); rintro e w6 ⟨rfl, U6⟩; have B6 := bcell U6; have Z6 := U6.size; (try simp at Z6); (try rw [Nat.add_one_le_iff] at Z6)); obtain ⟨hb6, r0, r1, r2, r3, r4, r5⟩ := (((HBQ.out.upd U4).upd U5).upd U6).kn.cells) | (at_builtin; refine wpList_append_own _ rfl _ _ 54 rfl (w.heap.size + 1) 3 i0 (.int .i64 0) 1 8 Tryz.underlying54 hi hz0 hz1 hz2 rfl (by decide) _ _ _ rfl (ownsRow_up (((HBQ.out.upd U4).upd U5).upd U6).own (Up.alloc (Up.refl _) _)) ⟨w6.heap.size, 0, none⟩ 1 1 [.int .i64 (clr k'.set : Int)] rfl rfl (new_cells [.int .i64 (clr k'.set : Int)] _ rfl) (by intro u hu; simp at hu; subst hu; rfl) (by unfold maxLen; omega) (by omega) (by have := (((HBQ.out.upd U4).upd U5).upd U6).kn.cells.1; simp; omega) ?_; rintro v12 w12 hown12 hgr12 -; obtain ⟨a12, c12, rfl⟩ := ownsRow_shape hown12; have hb12 := ((((HBQ.out.upd U4).upd U5).upd U6).upd (Up.alloc (Up.refl _) _)).ints hgr12 (ownI_snoc hown12); obtain ⟨hbs12, r0, r1, r2, r3, r4, r5⟩ := hb12.kn.cells; have hfr12 := box_free hb12.kn; have HB12 := Lib.hid hb12; clear hb12 hown12 hgr12) | (go_at_call 201; (with_reducible refine (cSt _ HB12.out.rd).mono ?_); rintro e w13 ⟨v13, rfl, ho13, U13⟩; obtain ⟨a13, c13, rfl⟩ := ownsRow_shape ho13; have hb13 := HB12.out.upd U13; have hz13 := (HB12.out.kn.cells).1; have hs13 := (hb13.stored (ownsRow_base ho13 hz13)); obtain ⟨hbs13, r0, r1, r2, r3, r4, r5⟩ := hb13.kn.cells; have hfr13 := box_free hb13.kn; have HS13 := Lib.hid hs13; clear hb13 ho13 hs13 U13))
              rw [show (World.setCell (World.setCell (World.setCell (World.setCell (World.setCell (World.setCell w13 ⟨w.heap.size, 0, none⟩ (.int .i64 (k'.cleared).set.ord)) ⟨w.heap.size, 1, none⟩ (.int .i64 (k'.cleared).set.lit)) ⟨w.heap.size, 2, none⟩ (.int .i64 (k'.cleared).set.most)) ⟨w.heap.size, 3, none⟩ (.slice a13 (k'.cleared).ps.length c13)) ⟨w.heap.size, 4, none⟩ (.int .i64 (k'.cleared).base)) ⟨w.heap.size, 5, none⟩ (.int .i64 (k'.cleared).last)) = KnW w13 w.heap.size (k'.cleared) (.slice a13 (k'.cleared).ps.length c13) from rfl]
              generalize KnW w13 w.heap.size (k'.cleared) (.slice a13 (k'.cleared).ps.length c13) = W13 at HS13 ⊢
              refine bodyPost_ret (v := .tuple #[.slice a12 3100 c12, .int .i64 3, .int .i64 (((p : Int) + wd + 7) / 8)]) (by simp [results, Tryz.results174, go_sem]) rfl ?_
              rw [HR.out]
              have ho9 : W13.ownsRow (w.heap.size + 1) 3 1 (.slice a12 (cs.length + 1) c12) (cs ++ [_]).length (cellsI (cs ++ [_])) := HS13.out.own
              rw [h5] at ho9
              exact ⟨_, rfl, ownsRow_base ho9 (Nat.le_succ _), HS13.out.up⟩
            · have HR : Hid (readN k.set.ord bits 0 0 m' (k'.cleared) (p + wd) (cs ++ [(clr k'.set : Int)]) (d) = T) := by
                unfold Hid; rw [← HD.out.tot, readN_clear (x := (clr k'.set : Int)) (by rw [HWE.out]; exact HX.out) (by rw [HWE.out]; exact HSH.out) rfl (by omega), HWE.out]
              have HI := Lib.hid (by have := HD.out.inv.clear (by rw [HWE.out]; exact HSH.out); rw [HWE.out] at this; exact this)
              have hlm := HD.out.len
              go_wp2_with (first | ((go_at_call 198; (with_reducible refine (cWd _ HBQ.out.rd).mono ?_); rintro e w4 ⟨rfl, U4⟩; have B4 := bcell U4; have Z4 := U4.size; (try simp at Z4); (try rw [Nat.add_one_le_iff] at Z4)); obtain ⟨hb4, r0, r1, r2, r3, r4, r5⟩ := (HBQ.out.upd U4).kn.cells) | ((go_at_call 159; (with_reducible refine (cE _).mono ?_); rintro e w5 ⟨rfl, U5⟩; have B5 := bcell U5; have Z5 := U5.size; (try simp at Z5); (try rw [Nat.add_one_le_iff] at Z5)); obtain ⟨hb5, r0, r1, r2, r3, r4, r5⟩ := ((HBQ.out.upd U4).upd U5).kn.cells) | ((go_at_call 141; (with_reducible refine (cK _).mono ?_); rintro e w6 ⟨rfl, U6⟩; have B6 := bcell U6; have Z6 := U6.size; (try simp at Z6); (try rw [Nat.add_one_le_iff] at Z6)); obtain ⟨hb6, r0, r1, r2, r3, r4, r5⟩ := (((HBQ.out.upd U4).upd U5).upd U6).kn.cells) | (at_builtin; refine wpList_append_own _ rfl _ _ 54 rfl (w.heap.size + 1) 3 i0 (.int .i64 0) 1 8 Tryz.underlying54 hi hz0 hz1 hz2 rfl (by decide) _ _ _ rfl (ownsRow_up (((HBQ.out.upd U4).upd U5).upd U6).own (Up.alloc (Up.refl _) _)) ⟨w6.heap.size, 0, none⟩ 1 1 [.int .i64 (clr k'.set : Int)] rfl rfl (new_cells [.int .i64 (clr k'.set : Int)] _ rfl) (by intro u hu; simp at hu; subst hu; rfl) (by unfold maxLen; omega) (by omega) (by have := (((HBQ.out.upd U4).upd U5).upd U6).kn.cells.1; simp; omega) ?_; rintro v12 w12 hown12 hgr12 -; obtain ⟨a12, c12, rfl⟩ := ownsRow_shape hown12; have hb12 := ((((HBQ.out.upd U4).upd U5).upd U6).upd (Up.alloc (Up.refl _) _)).ints hgr12 (ownI_snoc hown12); obtain ⟨hbs12, r0, r1, r2, r3, r4, r5⟩ := hb12.kn.cells; have hfr12 := box_free hb12.kn; have HB12 := Lib.hid hb12; clear hb12 hown12 hgr12) | (go_at_call 201; (with_reducible refine (cSt _ HB12.out.rd).mono ?_); rintro e w13 ⟨v13, rfl, ho13, U13⟩; obtain ⟨a13, c13, rfl⟩ := ownsRow_shape ho13; have hb13 := HB12.out.upd U13; have hz13 := (HB12.out.kn.cells).1; have hs13 := (hb13.stored (ownsRow_base ho13 hz13)); obtain ⟨hbs13, r0, r1, r2, r3, r4, r5⟩ := hb13.kn.cells; have hfr13 := box_free hb13.kn; have HS13 := Lib.hid hs13; clear hb13 ho13 hs13 U13))
              rw [show (World.setCell (World.setCell (World.setCell (World.setCell (World.setCell (World.setCell w13 ⟨w.heap.size, 0, none⟩ (.int .i64 (k'.cleared).set.ord)) ⟨w.heap.size, 1, none⟩ (.int .i64 (k'.cleared).set.lit)) ⟨w.heap.size, 2, none⟩ (.int .i64 (k'.cleared).set.most)) ⟨w.heap.size, 3, none⟩ (.slice a13 (k'.cleared).ps.length c13)) ⟨w.heap.size, 4, none⟩ (.int .i64 (k'.cleared).base)) ⟨w.heap.size, 5, none⟩ (.int .i64 (k'.cleared).last)) = KnW w13 w.heap.size (k'.cleared) (.slice a13 (k'.cleared).ps.length c13) from rfl]
              generalize KnW w13 w.heap.size (k'.cleared) (.slice a13 (k'.cleared).ps.length c13) = W13 at HS13 ⊢
              go_roundw
              case rel => exact ⟨k'.cleared, _, p + wd, m', cs ++ [(clr k'.set : Int)], d, by go_num, by first | rfl | (rw [List.length_append]; go_num), ⟨HI.out, HR.out, by omega, by simp; omega⟩, HS13.out⟩
              case measure => simp [intOf]; omega
          · have hne2 : (x == (clr k'.set : Int)) = false := by simpa using hx2
            have HX2 : Hid (x ≠ (k'.c : Int)) := hx2
            clear hx2
            have cFl := fun wx hr => l2Follows_any k' (.slice a' k'.ps.length c') 0 x wx HOK.out hr
            cases hf : k'.follows x
            · have HR : Hid (T = ⟨k', cs, d, 2, p + wd⟩) := by
                unfold Hid; rw [← HD.out.tot, readN_wrong (x := x) (by rw [HWE.out]; exact HX.out) (by rw [HWE.out]; exact HSH.out) HX1.out HX2.out hf, HWE.out]
              rw [hf] at cFl
              clear hf
              go_wp2_with (first | ((go_at_call 198; (with_reducible refine (cWd _ HBQ.out.rd).mono ?_); rintro e w4 ⟨rfl, U4⟩; have B4 := bcell U4; have Z4 := U4.size; (try simp at Z4); (try rw [Nat.add_one_le_iff] at Z4)); obtain ⟨hb4, r0, r1, r2, r3, r4, r5⟩ := (HBQ.out.upd U4).kn.cells) | ((go_at_call 159; (with_reducible refine (cE _).mono ?_); rintro e w5 ⟨rfl, U5⟩; have B5 := bcell U5; have Z5 := U5.size; (try simp at Z5); (try rw [Nat.add_one_le_iff] at Z5)); obtain ⟨hb5, r0, r1, r2, r3, r4, r5⟩ := ((HBQ.out.upd U4).upd U5).kn.cells) | ((go_at_call 141; (with_reducible refine (cK _).mono ?_); rintro e w6 ⟨rfl, U6⟩; have B6 := bcell U6; have Z6 := U6.size; (try simp at Z6); (try rw [Nat.add_one_le_iff] at Z6)); obtain ⟨hb6, r0, r1, r2, r3, r4, r5⟩ := (((HBQ.out.upd U4).upd U5).upd U6).kn.cells) | ((go_at_call 199; (with_reducible refine (cFl _ (((HBQ.out.upd U4).upd U5).upd U6).rd).mono ?_); rintro e w7 ⟨rfl, U7⟩; have B7 := bcell U7; have Z7 := U7.size; (try simp at Z7); (try rw [Nat.add_one_le_iff] at Z7)); obtain ⟨hb7, r0, r1, r2, r3, r4, r5⟩ := ((((HBQ.out.upd U4).upd U5).upd U6).upd U7).kn.cells))
              refine bodyPost_ret (v := .tuple #[.slice aw cs.length cw, .int .i64 2, .int .i64 (((p : Int) + wd + 7) / 8)]) (by simp [results, Tryz.results174, go_sem]) rfl ?_
              rw [HR.out]
              exact ⟨_, rfl, ownsRow_base ((((HBQ.out.upd U4).upd U5).upd U6).upd U7).own (Nat.le_succ _), ((((HBQ.out.upd U4).upd U5).upd U6).upd U7).up⟩
            · have cA := fun wx hr => l2Any_any k' (.slice a' k'.ps.length c') 0 x wx HOK.out hr hf
              have hal := KnD.any_len HOK.out hf
              have hzl := bs_size (k'.any x)
              rw [hf] at cFl
              have HF := Lib.hid hf
              clear hf
              by_cases h4 : 2000 < 0 + d.length + (k'.any x).length
              · have HR : Hid (T = ⟨k', cs, d, 3, p + wd⟩) := by
                  unfold Hid; rw [← HD.out.tot, readN_long (x := x) (by rw [HWE.out]; exact HX.out) (by rw [HWE.out]; exact HSH.out) HX1.out HX2.out HF.out h4, HWE.out]
                generalize k'.any x = wl at *
                go_wp2_with (first | ((go_at_call 198; (with_reducible refine (cWd _ HBQ.out.rd).mono ?_); rintro e w4 ⟨rfl, U4⟩; have B4 := bcell U4; have Z4 := U4.size; (try simp at Z4); (try rw [Nat.add_one_le_iff] at Z4)); obtain ⟨hb4, r0, r1, r2, r3, r4, r5⟩ := (HBQ.out.upd U4).kn.cells) | ((go_at_call 159; (with_reducible refine (cE _).mono ?_); rintro e w5 ⟨rfl, U5⟩; have B5 := bcell U5; have Z5 := U5.size; (try simp at Z5); (try rw [Nat.add_one_le_iff] at Z5)); obtain ⟨hb5, r0, r1, r2, r3, r4, r5⟩ := ((HBQ.out.upd U4).upd U5).kn.cells) | ((go_at_call 141; (with_reducible refine (cK _).mono ?_); rintro e w6 ⟨rfl, U6⟩; have B6 := bcell U6; have Z6 := U6.size; (try simp at Z6); (try rw [Nat.add_one_le_iff] at Z6)); obtain ⟨hb6, r0, r1, r2, r3, r4, r5⟩ := (((HBQ.out.upd U4).upd U5).upd U6).kn.cells) | ((go_at_call 199; (with_reducible refine (cFl _ (((HBQ.out.upd U4).upd U5).upd U6).rd).mono ?_); rintro e w7 ⟨rfl, U7⟩; have B7 := bcell U7; have Z7 := U7.size; (try simp at Z7); (try rw [Nat.add_one_le_iff] at Z7)); obtain ⟨hb7, r0, r1, r2, r3, r4, r5⟩ := ((((HBQ.out.upd U4).upd U5).upd U6).upd U7).kn.cells) | ((go_at_call 200; (with_reducible refine (cA _ ((((HBQ.out.upd U4).upd U5).upd U6).upd U7).rd).mono ?_); rintro e w8 ⟨rfl, U8⟩; have B8 := bcell U8; have Z8 := U8.size; (try simp at Z8); (try rw [Nat.add_one_le_iff] at Z8)); obtain ⟨hb8, r0, r1, r2, r3, r4, r5⟩ := (((((HBQ.out.upd U4).upd U5).upd U6).upd U7).upd U8).kn.cells))
                refine bodyPost_ret (v := .tuple #[.slice aw cs.length cw, .int .i64 3, .int .i64 (((p : Int) + wd + 7) / 8)]) (by simp [results, Tryz.results174, go_sem]) rfl ?_
                rw [HR.out]
                exact ⟨_, rfl, ownsRow_base (((((HBQ.out.upd U4).upd U5).upd U6).upd U7).upd U8).own (Nat.le_succ _), (((((HBQ.out.upd U4).upd U5).upd U6).upd U7).upd U8).up⟩
              · have cSt := fun wx hr => l2Step_any k' (.slice a' k'.ps.length c') 0 x wx HOK.out hr (fun _ => HF.out)
                have ek : k'.step x = k'.after x := if_neg HX2.out
                rw [ek] at cSt
                clear ek
                have H4 := Lib.hid h4
                generalize hwl : k'.any x = wl at *
                have HWL := Lib.hid hwl
                clear hwl
                by_cases h5 : cs.length + 1 = 3100
                · have HR : Hid (T = ⟨k'.after x, cs ++ [x], d ++ wl, 3, p + wd⟩) := by
                    unfold Hid; rw [← HD.out.tot, readN_wordL (x := x) (by rw [HWE.out]; exact HX.out) (by rw [HWE.out]; exact HSH.out) HX1.out HX2.out HF.out (by rw [HWL.out]; exact H4.out) (by omega), HWE.out, HWL.out]
                  go_wp2_with (first | ((go_at_call 198; (with_reducible refine (cWd _ HBQ.out.rd).mono ?_); rintro e w4 ⟨rfl, U4⟩; have B4 := bcell U4; have Z4 := U4.size; (try simp at Z4); (try rw [Nat.add_one_le_iff] at Z4)); obtain ⟨hb4, r0, r1, r2, r3, r4, r5⟩ := (HBQ.out.upd U4).kn.cells) | ((go_at_call 159; (with_reducible refine (cE _).mono ?_); rintro e w5 ⟨rfl, U5⟩; have B5 := bcell U5; have Z5 := U5.size; (try simp at Z5); (try rw [Nat.add_one_le_iff] at Z5)); obtain ⟨hb5, r0, r1, r2, r3, r4, r5⟩ := ((HBQ.out.upd U4).upd U5).kn.cells) | ((go_at_call 141; (with_reducible refine (cK _).mono ?_); rintro e w6 ⟨rfl, U6⟩; have B6 := bcell U6; have Z6 := U6.size; (try simp at Z6); (try rw [Nat.add_one_le_iff] at Z6)); obtain ⟨hb6, r0, r1, r2, r3, r4, r5⟩ := (((HBQ.out.upd U4).upd U5).upd U6).kn.cells) | ((go_at_call 199; (with_reducible refine (cFl _ (((HBQ.out.upd U4).upd U5).upd U6).rd).mono ?_); rintro e w7 ⟨rfl, U7⟩; have B7 := bcell U7; have Z7 := U7.size; (try simp at Z7); (try rw [Nat.add_one_le_iff] at Z7)); obtain ⟨hb7, r0, r1, r2, r3, r4, r5⟩ := ((((HBQ.out.upd U4).upd U5).upd U6).upd U7).kn.cells) | ((go_at_call 200; (with_reducible refine (cA _ ((((HBQ.out.upd U4).upd U5).upd U6).upd U7).rd).mono ?_); rintro e w8 ⟨rfl, U8⟩; have B8 := bcell U8; have Z8 := U8.size; (try simp at Z8); (try rw [Nat.add_one_le_iff] at Z8)); obtain ⟨hb8, r0, r1, r2, r3, r4, r5⟩ := (((((HBQ.out.upd U4).upd U5).upd U6).upd U7).upd U8).kn.cells) | (at_builtin; refine wpList_append_own _ rfl _ _ 54 rfl (w.heap.size + 1) 3 i0 (.int .i64 0) 1 8 Tryz.underlying54 hi hz0 hz1 hz2 rfl (by decide) _ _ _ rfl (ownsRow_up (((((HBQ.out.upd U4).upd U5).upd U6).upd U7).upd U8).own (Up.alloc (Up.refl _) _)) ⟨w8.heap.size, 0, none⟩ 1 1 [.int .i64 x] rfl rfl (new_cells [.int .i64 x] _ rfl) (by intro u hu; simp at hu; subst hu; rfl) (by unfold maxLen; omega) (by omega) (by have := (((((HBQ.out.upd U4).upd U5).upd U6).upd U7).upd U8).kn.cells.1; simp; omega) ?_; rintro v12 w12 hown12 hgr12 -; obtain ⟨a12, c12, rfl⟩ := ownsRow_shape hown12; have hb12 := ((((((HBQ.out.upd U4).upd U5).upd U6).upd U7).upd U8).upd (Up.alloc (Up.refl _) _)).ints hgr12 (ownI_snoc hown12); obtain ⟨hbs12, r0, r1, r2, r3, r4, r5⟩ := hb12.kn.cells; have hfr12 := box_free hb12.kn; have HB12 := Lib.hid hb12; clear hb12 hown12 hgr12) | (go_at_call 201; (with_reducible refine (cSt _ HB12.out.rd).mono ?_); rintro e w13 ⟨v13, rfl, ho13, U13⟩; obtain ⟨a13, c13, rfl⟩ := ownsRow_shape ho13; have hb13 := HB12.out.upd U13; have hz13 := (HB12.out.kn.cells).1; have hs13 := (hb13.stored (ownsRow_base ho13 hz13)); obtain ⟨hbs13, r0, r1, r2, r3, r4, r5⟩ := hb13.kn.cells; have hfr13 := box_free hb13.kn; have HS13 := Lib.hid hs13; clear hb13 ho13 hs13 U13))
                  rw [show (World.setCell (World.setCell (World.setCell (World.setCell (World.setCell (World.setCell w13 ⟨w.heap.size, 0, none⟩ (.int .i64 (k'.after x).set.ord)) ⟨w.heap.size, 1, none⟩ (.int .i64 (k'.after x).set.lit)) ⟨w.heap.size, 2, none⟩ (.int .i64 (k'.after x).set.most)) ⟨w.heap.size, 3, none⟩ (.slice a13 (k'.after x).ps.length c13)) ⟨w.heap.size, 4, none⟩ (.int .i64 (k'.after x).base)) ⟨w.heap.size, 5, none⟩ (.int .i64 (k'.after x).last)) = KnW w13 w.heap.size (k'.after x) (.slice a13 (k'.after x).ps.length c13) from rfl]
                  generalize KnW w13 w.heap.size (k'.after x) (.slice a13 (k'.after x).ps.length c13) = W13 at HS13 ⊢
                  refine bodyPost_ret (v := .tuple #[.slice a12 3100 c12, .int .i64 3, .int .i64 (((p : Int) + wd + 7) / 8)]) (by simp [results, Tryz.results174, go_sem]) rfl ?_
                  rw [HR.out]
                  have ho9 : W13.ownsRow (w.heap.size + 1) 3 1 (.slice a12 (cs.length + 1) c12) (cs ++ [_]).length (cellsI (cs ++ [_])) := HS13.out.own
                  rw [h5] at ho9
                  exact ⟨_, rfl, ownsRow_base ho9 (Nat.le_succ _), HS13.out.up⟩
                · have HR : Hid (readN k.set.ord bits 0 0 m' (k'.after x) (p + wd) (cs ++ [x]) (d ++ wl) = T) := by
                    unfold Hid; rw [← HD.out.tot, readN_word (x := x) (by rw [HWE.out]; exact HX.out) (by rw [HWE.out]; exact HSH.out) HX1.out HX2.out HF.out (by rw [HWL.out]; exact H4.out) (by omega), HWE.out, HWL.out]
                  have HI := Lib.hid (by have := HD.out.inv.word (by rw [HWE.out]; exact HSH.out) HX1.out HX2.out HF.out (by rw [HWL.out]; exact H4.out); rw [HWE.out, HWL.out] at this; exact this)
                  have hlm := HD.out.len
                  go_wp2_with (first | ((go_at_call 198; (with_reducible refine (cWd _ HBQ.out.rd).mono ?_); rintro e w4 ⟨rfl, U4⟩; have B4 := bcell U4; have Z4 := U4.size; (try simp at Z4); (try rw [Nat.add_one_le_iff] at Z4)); obtain ⟨hb4, r0, r1, r2, r3, r4, r5⟩ := (HBQ.out.upd U4).kn.cells) | ((go_at_call 159; (with_reducible refine (cE _).mono ?_); rintro e w5 ⟨rfl, U5⟩; have B5 := bcell U5; have Z5 := U5.size; (try simp at Z5); (try rw [Nat.add_one_le_iff] at Z5)); obtain ⟨hb5, r0, r1, r2, r3, r4, r5⟩ := ((HBQ.out.upd U4).upd U5).kn.cells) | ((go_at_call 141; (with_reducible refine (cK _).mono ?_); rintro e w6 ⟨rfl, U6⟩; have B6 := bcell U6; have Z6 := U6.size; (try simp at Z6); (try rw [Nat.add_one_le_iff] at Z6)); obtain ⟨hb6, r0, r1, r2, r3, r4, r5⟩ := (((HBQ.out.upd U4).upd U5).upd U6).kn.cells) | ((go_at_call 199; (with_reducible refine (cFl _ (((HBQ.out.upd U4).upd U5).upd U6).rd).mono ?_); rintro e w7 ⟨rfl, U7⟩; have B7 := bcell U7; have Z7 := U7.size; (try simp at Z7); (try rw [Nat.add_one_le_iff] at Z7)); obtain ⟨hb7, r0, r1, r2, r3, r4, r5⟩ := ((((HBQ.out.upd U4).upd U5).upd U6).upd U7).kn.cells) | ((go_at_call 200; (with_reducible refine (cA _ ((((HBQ.out.upd U4).upd U5).upd U6).upd U7).rd).mono ?_); rintro e w8 ⟨rfl, U8⟩; have B8 := bcell U8; have Z8 := U8.size; (try simp at Z8); (try rw [Nat.add_one_le_iff] at Z8)); obtain ⟨hb8, r0, r1, r2, r3, r4, r5⟩ := (((((HBQ.out.upd U4).upd U5).upd U6).upd U7).upd U8).kn.cells) | (at_builtin; refine wpList_append_own _ rfl _ _ 54 rfl (w.heap.size + 1) 3 i0 (.int .i64 0) 1 8 Tryz.underlying54 hi hz0 hz1 hz2 rfl (by decide) _ _ _ rfl (ownsRow_up (((((HBQ.out.upd U4).upd U5).upd U6).upd U7).upd U8).own (Up.alloc (Up.refl _) _)) ⟨w8.heap.size, 0, none⟩ 1 1 [.int .i64 x] rfl rfl (new_cells [.int .i64 x] _ rfl) (by intro u hu; simp at hu; subst hu; rfl) (by unfold maxLen; omega) (by omega) (by have := (((((HBQ.out.upd U4).upd U5).upd U6).upd U7).upd U8).kn.cells.1; simp; omega) ?_; rintro v12 w12 hown12 hgr12 -; obtain ⟨a12, c12, rfl⟩ := ownsRow_shape hown12; have hb12 := ((((((HBQ.out.upd U4).upd U5).upd U6).upd U7).upd U8).upd (Up.alloc (Up.refl _) _)).ints hgr12 (ownI_snoc hown12); obtain ⟨hbs12, r0, r1, r2, r3, r4, r5⟩ := hb12.kn.cells; have hfr12 := box_free hb12.kn; have HB12 := Lib.hid hb12; clear hb12 hown12 hgr12) | (go_at_call 201; (with_reducible refine (cSt _ HB12.out.rd).mono ?_); rintro e w13 ⟨v13, rfl, ho13, U13⟩; obtain ⟨a13, c13, rfl⟩ := ownsRow_shape ho13; have hb13 := HB12.out.upd U13; have hz13 := (HB12.out.kn.cells).1; have hs13 := (hb13.stored (ownsRow_base ho13 hz13)); obtain ⟨hbs13, r0, r1, r2, r3, r4, r5⟩ := hb13.kn.cells; have hfr13 := box_free hb13.kn; have HS13 := Lib.hid hs13; clear hb13 ho13 hs13 U13))
                  rw [show (World.setCell (World.setCell (World.setCell (World.setCell (World.setCell (World.setCell w13 ⟨w.heap.size, 0, none⟩ (.int .i64 (k'.after x).set.ord)) ⟨w.heap.size, 1, none⟩ (.int .i64 (k'.after x).set.lit)) ⟨w.heap.size, 2, none⟩ (.int .i64 (k'.after x).set.most)) ⟨w.heap.size, 3, none⟩ (.slice a13 (k'.after x).ps.length c13)) ⟨w.heap.size, 4, none⟩ (.int .i64 (k'.after x).base)) ⟨w.heap.size, 5, none⟩ (.int .i64 (k'.after x).last)) = KnW w13 w.heap.size (k'.after x) (.slice a13 (k'.after x).ps.length c13) from rfl]
                  generalize KnW w13 w.heap.size (k'.after x) (.slice a13 (k'.after x).ps.length c13) = W13 at HS13 ⊢
                  go_roundw
                  case rel => exact ⟨k'.after x, _, p + wd, m', cs ++ [x], d ++ wl, by go_num, by first | rfl | (rw [List.length_append]; go_num), ⟨HI.out, HR.out, by omega, by simp; omega⟩, HS13.out⟩
                  case measure => simp [intOf]; omega

end Go.Proofs.YtekbbnkkninolaaGreat

/- Walks of the reference's Decompress, DecompressWith, l5Data, BlockData. Conditions: what is known is valid and can be read; strings are no longer than 2^30 bytes. -/
namespace Go.Proofs.YtekbbnkkninolaaGreat
set_option linter.unusedVariables false
set_option linter.unusedSimpArgs false
open Go Go.RowKit

theorem RdI.low {lo lo' : Nat} {w : World} {v : Value} {l : List Int} (h : RdI lo w v l) (hl : lo' ≤ lo) : RdI lo' w v l := by
  obtain ⟨a, cap, h1, h2, h3, h4⟩ := h
  exact ⟨a, cap, h1, h2, h3, fun hp => by
    obtain ⟨b, off, e1, e2, e3⟩ := h4 hp
    exact ⟨b, off, e1, Nat.le_trans hl e2, e3⟩⟩
theorem unpK_bd {k : KnD} (h : k.Ok) (s : List UInt8) : (unpK k s).codes.length ≤ 3100 ∧ (unpK k s).fin = (decK k s).fin ∧ (unpK k s).used = (decK k s).used ∧ ((unpK k s).fin ≠ 4 → (walkN k (unpK k s).codes [] []).data = (decK k s).data) ∧ ((unpK k s).fin = 4 → decK k s = ⟨[], 4, 0⟩) := by
  have hf := readS_fin h s
  have hc := hf.cl
  unfold unpK decK
  split
  · refine ⟨by show (readS k s).codes.length ≤ 3100; omega, rfl, rfl, fun _ => hf.walk, fun h9 => ?_⟩
    have := hf.fin
    have h9' : (readS k s).fin = 4 := h9
    omega
  · exact ⟨by simp, rfl, rfl, fun h => absurd rfl h, fun _ => rfl⟩

set_option maxRecDepth 100000 in
set_option maxHeartbeats 4000000 in
theorem decS_any (k : KnD) (v : Value) (lo : Nat) (s : ByteArray) (w : World) (h : k.Ok) (hv : k.last = -1 → k.base = k.ps.length) (hr : RdP lo w v k.ps) (hs : s.size ≤ 1073741824) :
    Calls Tryz.prog 144  #[kV k v, .string s] w (Same (decV (decK k s.data.toList)) w) := by
  have cU := fun wx hr => unpS_any k v lo s wx h hv hr hs
  have hrt := fun (wq : World) (hu : Up w wq) => hr.up hu
  obtain ⟨u1, u2, u3, u4, u5⟩ := unpK_bd h s.data.toList
  unfold UnPost at cU
  unfold decV
  by_cases hf : (unpK k s.data.toList).fin = 4
  · have e := u5 hf
    rw [e]
    rw [hf] at cU
    obtain ⟨a, cap, rfl, -, -, -, -⟩ := hr
    clear h hv u1 u2 u3 u4 u5 hf e
    simp only [kV] at *
    go_enter Tryz.func144, Tryz.ntmps144
    go_wp2_with (go_at_call 174; (with_reducible refine (cU _ (hrt _ (by (repeat (first | with_reducible exact Up.refl _ | with_reducible assumption | with_reducible refine Up.set ?_ (by first | exact Nat.le_refl _ | (simp only []; omega) | (simp; omega)) _ | with_reducible refine Up.alloc ?_ _ | with_reducible refine Up.drew ?_ | refine Up.trans ?_ (by with_reducible assumption)))))).mono ?_); rintro e w1 ⟨v1, rfl, ho1, U1⟩; obtain ⟨a1, c1, rfl⟩ := ownsRow_shape ho1; clear ho1)
    refine bodyPost_ret (v := .tuple #[.string ByteArray.empty, .int .i64 4, .int .i64 0]) (by simp [results, Tryz.results144, go_sem]; try rfl) rfl ⟨rfl, ?_⟩
    (repeat (first | with_reducible exact Up.refl _ | with_reducible assumption | with_reducible refine Up.set ?_ (by first | exact Nat.le_refl _ | (simp only []; omega) | (simp; omega)) _ | with_reducible refine Up.alloc ?_ _ | with_reducible refine Up.drew ?_ | refine Up.trans ?_ (by with_reducible assumption)))
  · have hd := u4 hf
    have hne : ((unpK k s.data.toList).fin == 4) = false := by simpa using hf
    rw [← u2, ← u3, ← hd]
    have cW := fun wx vc hr hc => l2Walk_any k v lo (unpK k s.data.toList).codes vc 0 wx h hr hc (by omega)
    unfold WkPost at cW
    clear u2 u3 u4 u5 hd hf
    generalize unpK k s.data.toList = U at *
    obtain ⟨codes, fin, used⟩ := U
    simp only at u1 hne cU cW ⊢
    generalize walkN k codes [] [] = T at *
    obtain ⟨a, cap, rfl, -, -, -, -⟩ := hr
    clear h hv
    simp only [kV] at *
    go_enter Tryz.func144, Tryz.ntmps144
    go_wp2_with (first | (go_at_call 174; (with_reducible refine (cU _ (hrt _ (by (repeat (first | with_reducible exact Up.refl _ | with_reducible assumption | with_reducible refine Up.set ?_ (by first | exact Nat.le_refl _ | (simp only []; omega) | (simp; omega)) _ | with_reducible refine Up.alloc ?_ _ | with_reducible refine Up.drew ?_ | refine Up.trans ?_ (by with_reducible assumption)))))).mono ?_); rintro e w1 ⟨v1, rfl, ho1, U1⟩; have B1 := bcell U1; have Z1 := U1.size; (try simp at Z1); (try rw [Nat.add_one_le_iff] at Z1); have HI1 := Lib.hid ((RdI.of_own ho1).low (Nat.zero_le _)); obtain ⟨a1, c1, rfl⟩ := ownsRow_shape ho1; clear ho1) | (go_at_call 175; (with_reducible refine (cW _ _ (hrt _ (by (repeat (first | with_reducible exact Up.refl _ | with_reducible assumption | with_reducible refine Up.set ?_ (by first | exact Nat.le_refl _ | (simp only []; omega) | (simp; omega)) _ | with_reducible refine Up.alloc ?_ _ | with_reducible refine Up.drew ?_ | refine Up.trans ?_ (by with_reducible assumption))))) (HI1.out.up (by (repeat (first | with_reducible exact Up.refl _ | with_reducible assumption | with_reducible refine Up.set ?_ (by first | exact Nat.le_refl _ | (simp only []; omega) | (simp; omega)) _ | with_reducible refine Up.alloc ?_ _ | with_reducible refine Up.drew ?_ | refine Up.trans ?_ (by with_reducible assumption)))))).mono ?_); rintro e w2 ⟨kv, vw, rfl, ⟨k3, a3, n3, c3, rfl⟩, ho2, U2⟩; obtain ⟨aw, cw, rfl⟩ := ownsRow_shape ho2; clear ho2))
    refine bodyPost_ret (v := .tuple #[.string (bs T.data), .int .i64 fin, .int .i64 used]) (by simp [results, Tryz.results144, go_sem]; try rfl) rfl ⟨rfl, ?_⟩
    (repeat (first | with_reducible exact Up.refl _ | with_reducible assumption | with_reducible refine Up.set ?_ (by first | exact Nat.le_refl _ | (simp only []; omega) | (simp; omega)) _ | with_reducible refine Up.alloc ?_ _ | with_reducible refine Up.drew ?_ | refine Up.trans ?_ (by with_reducible assumption)))

set_option maxRecDepth 100000 in
set_option maxHeartbeats 4000000 in
theorem decWS_any (s : SetD) (dict st : ByteArray) (w : World) (hi : dict.size ≤ 1073741824) (hs : st.size ≤ 1073741824) :
    Calls Tryz.prog 102  #[setV s, .string dict, .string st] w (Same (decV (decW s dict.data.toList st.data.toList)) w) := by
  have cS := fun wx => startWS_any s dict wx hi
  unfold decW
  cases hf : fitsB s dict.data.toList
  · rw [hf] at cS
    simp only [Bool.false_eq_true, if_false] at cS ⊢
    unfold decV
    clear hf
    simp only [setV] at *
    go_enter Tryz.func102, Tryz.ntmps102
    go_wp2_with ((go_at_call 79; (with_reducible refine (cS _).mono ?_); rintro e w1 ⟨rfl, U1⟩; have B1 := bcell U1; have Z1 := U1.size; (try simp at Z1); (try rw [Nat.add_one_le_iff] at Z1)))
    refine bodyPost_ret (v := .tuple #[.string ByteArray.empty, .int .i64 4, .int .i64 0]) (by simp [results, Tryz.results102, go_sem]; try rfl) rfl ⟨rfl, ?_⟩
    (repeat (first | with_reducible exact Up.refl _ | with_reducible assumption | with_reducible refine Up.set ?_ (by first | exact Nat.le_refl _ | (simp only []; omega) | (simp; omega)) _ | with_reducible refine Up.alloc ?_ _ | with_reducible refine Up.drew ?_ | refine Up.trans ?_ (by with_reducible assumption)))
  · rw [hf] at cS
    simp only [if_true] at cS ⊢
    obtain ⟨h1, h2, h3⟩ := fitsB_lits hf
    have hok : (learnK (startK s) dict.data.toList).Ok := learnK_ok (startK_ok h1) h3
    have cD := fun wx v hr => decS_any (learnK (startK s) dict.data.toList) v 0 st wx hok (fun _ => rfl) hr hs
    clear hf h1 h2 h3 hok
    generalize learnK (startK s) dict.data.toList = kk at *
    unfold decV at *
    generalize decK kk st.data.toList = oo at *
    simp only [setV, kV] at *
    go_enter Tryz.func102, Tryz.ntmps102
    go_wp2_with (first | (go_at_call 79; (with_reducible refine (cS _).mono ?_); rintro e w1 ⟨v1, rfl, ho1, U1⟩; obtain ⟨a1, c1, rfl⟩ := ownsRow_shape ho1; have HO1 := Lib.hid ho1; clear ho1) | (go_at_call 144; (with_reducible refine (cD _ _ (((RdP.of_own HO1.out).up (by (repeat (first | with_reducible exact Up.refl _ | with_reducible assumption | with_reducible refine Up.set ?_ (by first | exact Nat.le_refl _ | (simp only []; omega) | (simp; omega)) _ | with_reducible refine Up.alloc ?_ _ | with_reducible refine Up.drew ?_ | refine Up.trans ?_ (by with_reducible assumption))))).low (Nat.zero_le _))).mono ?_); rintro e w3 ⟨rfl, U3⟩; have B3 := bcell U3; have Z3 := U3.size; (try simp at Z3); (try rw [Nat.add_one_le_iff] at Z3)))
    refine bodyPost_ret (v := .tuple #[.string (bs oo.data), .int .i64 oo.fin, .int .i64 oo.used]) (by simp [results, Tryz.results102, go_sem]; try rfl) rfl ⟨rfl, ?_⟩
    (repeat (first | with_reducible exact Up.refl _ | with_reducible assumption | with_reducible refine Up.set ?_ (by first | exact Nat.le_refl _ | (simp only []; omega) | (simp; omega)) _ | with_reducible refine Up.alloc ?_ _ | with_reducible refine Up.drew ?_ | refine Up.trans ?_ (by with_reducible assumption)))

/-- The data of a block. -/
def dataO (s : SetD) (dict : List UInt8) (b : BlkD) : Option (List UInt8) := if b.raw then some b.body.data.toList else
  if (decW s dict b.body.data.toList).fin = 0 ∧ (decW s dict b.body.data.toList).used = b.body.size ∧ ((decW s dict b.body.data.toList).data.length : Int) = b.size then some (decW s dict b.body.data.toList).data else none
set_option maxRecDepth 100000 in
set_option maxHeartbeats 8000000 in
theorem l5Data_any (s : SetD) (dict : ByteArray) (b : BlkD) (w : World) (hi : dict.size ≤ 1073741824) (hs : b.body.size ≤ 1073741824) :
    Calls Tryz.prog 123  #[setV s, .string dict, blkV b] w (Same (optS (dataO s dict.data.toList b)) w) := by
  have cD := fun wx => decWS_any s dict b.body wx hi hs
  unfold dataO
  obtain ⟨num, raw, size, body⟩ := b
  simp only at hs cD ⊢
  cases raw
  · simp only [Bool.false_eq_true, if_false]
    obtain ⟨d1, d2, d3, d4⟩ := decW_bd s dict.data.toList body.data.toList
    generalize decW s dict.data.toList body.data.toList = R at *
    obtain ⟨dd, ff, uu⟩ := R
    simp only at d1 d2 d3 d4 ⊢
    unfold decV at cD
    simp only at cD
    have hbz := bs_size dd
    have hbl : uu ≤ body.size := by simpa using d4
    clear d4
    simp only [setV, blkV] at *
    by_cases h1 : ff = 0
    · by_cases h2 : uu = body.size
      · by_cases h3 : (dd.length : Int) = size
        · rw [if_pos ⟨h1, h2, h3⟩]
          unfold optS
          simp only [Option.getD_some, Option.isSome_some]
          subst h1; subst h2; subst h3
          go_enter Tryz.func123, Tryz.ntmps123
          go_wp2_with ((go_at_call 102; (with_reducible refine (cD _).mono ?_); rintro e w1 ⟨rfl, U1⟩; have B1 := bcell U1; have Z1 := U1.size; (try simp at Z1); (try rw [Nat.add_one_le_iff] at Z1)))
          go_ret2
          refine ⟨rfl, ?_⟩
          (repeat (first | with_reducible exact Up.refl _ | with_reducible assumption | with_reducible refine Up.set ?_ (by first | exact Nat.le_refl _ | (simp only []; omega) | (simp; omega)) _ | with_reducible refine Up.alloc ?_ _ | with_reducible refine Up.drew ?_ | refine Up.trans ?_ (by with_reducible assumption)))
        · rw [if_neg (fun h => h3 h.2.2)]
          unfold optS
          simp only [Option.getD_none, Option.isSome_none]
          have hne : ((dd.length : Int) == size) = false := by simpa using h3
          subst h1; subst h2
          clear h3
          go_enter Tryz.func123, Tryz.ntmps123
          go_wp2_with ((go_at_call 102; (with_reducible refine (cD _).mono ?_); rintro e w1 ⟨rfl, U1⟩; have B1 := bcell U1; have Z1 := U1.size; (try simp at Z1); (try rw [Nat.add_one_le_iff] at Z1)))
          go_ret2
          refine ⟨rfl, ?_⟩
          (repeat (first | with_reducible exact Up.refl _ | with_reducible assumption | with_reducible refine Up.set ?_ (by first | exact Nat.le_refl _ | (simp only []; omega) | (simp; omega)) _ | with_reducible refine Up.alloc ?_ _ | with_reducible refine Up.drew ?_ | refine Up.trans ?_ (by with_reducible assumption)))
      · rw [if_neg (fun h => h2 h.2.1)]
        unfold optS
        simp only [Option.getD_none, Option.isSome_none]
        have hne : ((uu : Int) == (body.size : Int)) = false := by simp; omega
        subst h1
        clear h2
        go_enter Tryz.func123, Tryz.ntmps123
        go_wp2_with ((go_at_call 102; (with_reducible refine (cD _).mono ?_); rintro e w1 ⟨rfl, U1⟩; have B1 := bcell U1; have Z1 := U1.size; (try simp at Z1); (try rw [Nat.add_one_le_iff] at Z1)))
        go_ret2
        refine ⟨rfl, ?_⟩
        (repeat (first | with_reducible exact Up.refl _ | with_reducible assumption | with_reducible refine Up.set ?_ (by first | exact Nat.le_refl _ | (simp only []; omega) | (simp; omega)) _ | with_reducible refine Up.alloc ?_ _ | with_reducible refine Up.drew ?_ | refine Up.trans ?_ (by with_reducible assumption)))
    · rw [if_neg (fun h => h1 h.1)]
      unfold optS
      simp only [Option.getD_none, Option.isSome_none]
      go_enter Tryz.func123, Tryz.ntmps123
      go_wp2_with ((go_at_call 102; (with_reducible refine (cD _).mono ?_); rintro e w1 ⟨rfl, U1⟩; have B1 := bcell U1; have Z1 := U1.size; (try simp at Z1); (try rw [Nat.add_one_le_iff] at Z1)))
      go_ret2
      refine ⟨rfl, ?_⟩
      (repeat (first | with_reducible exact Up.refl _ | with_reducible assumption | with_reducible refine Up.set ?_ (by first | exact Nat.le_refl _ | (simp only []; omega) | (simp; omega)) _ | with_reducible refine Up.alloc ?_ _ | with_reducible refine Up.drew ?_ | refine Up.trans ?_ (by with_reducible assumption)))
  · simp only [if_true]
    unfold optS
    simp only [Option.getD_some, Option.isSome_some, bs_self]
    clear cD
    simp only [setV, blkV] at *
    go_enter Tryz.func123, Tryz.ntmps123
    go_wp2
    go_ret2
    refine ⟨rfl, ?_⟩
    (repeat (first | with_reducible exact Up.refl _ | with_reducible assumption | with_reducible refine Up.set ?_ (by first | exact Nat.le_refl _ | (simp only []; omega) | (simp; omega)) _ | with_reducible refine Up.alloc ?_ _ | with_reducible refine Up.drew ?_ | refine Up.trans ?_ (by with_reducible assumption)))

end Go.Proofs.YtekbbnkkninolaaGreat

