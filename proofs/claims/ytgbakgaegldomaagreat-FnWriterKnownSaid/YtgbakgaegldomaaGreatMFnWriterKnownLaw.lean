/- At each time a reader of the bytes so far has read the beginning of the data, and with the bits that are kept at least all data that has codes. Conditions: none. -/
import Derived.Test.YtgbakgaegldomaaGreatMFnWriterKnownLawA
import Derived.Test.YtgbakgaegldomaaGreatMFnWriterKnownLawB
import Derived.Test.YtgbakgaegldomaaGreatMFnWriterKnownLawC
import Derived.Test.YtgbakgaegldomaaGreatMFnWriterKnownLawD
import Derived.Test.YtgbakgaegldomaaGreatMFnWriterKnownLawE
import Derived.Test.YtgbakgaegldomaaGreatMFnWriterKnownLawF
import Derived.Test.YtgbakgaegldomaaGreatMFnWriterKnownLawG
import Derived.Test.YtgbakgaegldomaaGreatMFnWriterKnownLawH
import Derived.Test.YtgbakgaegldomaaGreatMFnWriterKnownLawI
import Derived.Test.YtgbakgaegldomaaGreatMFnWriterKnownLawJ
import Derived.Test.YtgbakgaegldomaaGreatMFnWriterKnownLawK
import Derived.Test.YtgbakgaegldomaaGreatMFnWriterKnownLawL
import Derived.Test.YtgbakgaegldomaaGreatMFnWriterKnownLawM
import Derived.Test.YtgbakgaegldomaaGreatMFnWriterKnownLawN
import Derived.Test.YtgbakgaegldomaaGreatMFnWriterKnownLawO
import Derived.Test.YtgbakgaegldomaaGreatMFnWriterKnownLawP
import Derived.Test.YtgbakgaegldomaaGreatMFnWriterKnownLawQ
import Derived.Test.YtgbakgaegldomaaGreatMFnWriterKnownLawR
import Derived.Test.YtgbakgaegldomaaGreatMFnWriterKnownLawS
import Derived.Test.YtgbakgaegldomaaGreatMFnWriterKnownLawT
import Derived.Test.YtgbakgaegldomaaGreatMFnWriterKnownLawU
import Derived.Test.YtgbakgaegldomaaGreatMFnWriterKnownLawV
import Derived.Test.YtgbakgaegldomaaGreatMFnWriterKnownLawW
import Derived.Test.YtgbakgaegldomaaGreatMFnWriterKnownLawX
import Derived.Test.YtgbakgaegldomaaGreatMFnWriterKnownLawY
import Derived.Test.YtgbakgaegldomaaGreatMFnWriterKnownLawZ
import Derived.Test.YtgbakgaegldomaaGreatMFnWriterKnownLawXA
import Derived.Test.YtgbakgaegldomaaGreatMFnWriterKnownLawXB
import Derived.Test.YtgbakgaegldomaaGreatMFnWriterKnownLawXC
import Derived.Test.YtgbakgaegldomaaGreatMFnWriterKnownLawXD
import Derived.Test.YtgbakgaegldomaaGreatMFnWriterKnownLawXE
import Derived.Test.YtgbakgaegldomaaGreatMFnWriterKnownLawXF
import Derived.Test.YtgbakgaegldomaaGreatMFnWriterKnownLawXG
import Derived.Test.YtgbakgaegldomaaGreatMFnWriterKnownLawXH
import Derived.Test.YtgbakgaegldomaaGreatMFnWriterKnownLawXI
import Derived.Test.YtgbakgaegldomaaGreatMFnWriterKnownLawXJ
import Derived.Test.YtgbakgaegldomaaGreatMFnWriterKnownLawXK
import Derived.Test.YtgbakgaegldomaaGreatMFnWriterKnownLawXL
import Derived.Test.YtgbakgaegldomaaGreatMFnWriterKnownLawXM
import Derived.Test.YtgbakgaegldomaaGreatMFnWriterKnownLawXN
import Derived.Test.YtgbakgaegldomaaGreatMFnWriterKnownLawXO
import Derived.Test.YtgbakgaegldomaaGreatMFnWriterKnownLawXP
import Derived.Test.YtgbakgaegldomaaGreatMFnWriterKnownLawXQ
import Derived.Test.YtgbakgaegldomaaGreatMFnWriterKnownLawXR
import Derived.Test.YtgbakgaegldomaaGreatMFnWriterKnownLawXS
import Derived.Test.YtgbakgaegldomaaGreatMFnWriterKnownLawXT
import Derived.Test.YtgbakgaegldomaaGreatMFnWriterKnownLawXU
import Derived.Test.YtgbakgaegldomaaGreatMFnWriterKnownLawXV
namespace Go.Proofs.YtgbakgaegldomaaGreat.lawFnWriterKnown
set_option linter.unusedVariables false
set_option linter.unusedSimpArgs false
open Go.ChangeShapes Go.WideShapes Go.ChangeAt Go.RowKit Go.Joins
open Go.ChangeMaps (open_string shut_string)

def PtM (lo : Nat) (y : WrD) (b : List UInt8) (u : Value) (w : World) : Prop := ∃ v, u = .tuple #[wrV y v, .string (bs b), .bool true] ∧ RdP lo w v y.k.ps
theorem ptM_closed {lo : Nat} {y : WrD} {b : List UInt8} : ∀ u, UpClosed (PtM lo y b u) := fun u w w' ⟨v, h1, h2⟩ hu => ⟨v, h1, h2.up hu⟩
def WrO (lo : Nat) (y : WrD) (u : Value) (w : World) : Prop := ∃ v, u = wrV y v ∧ RdP lo w v y.k.ps
theorem wrO_closed {lo : Nat} {y : WrD} : ∀ u, UpClosed (WrO lo y u) := fun u w w' ⟨v, h1, h2⟩ hu => ⟨v, h1, h2.up hu⟩
theorem upOut_pt {f : FuncId} {args : Array Value} {w : World} {y : WrD} {b : List UInt8} {lo : Nat} (h : Calls Tryz.prog f args w (WdPost (some (y, b)) w)) (hb : lo ≤ w.heap.size) : upOut Tryz.prog (PtM lo y b) w (.ok (.enter f args) w) :=
  ⟨rfl, h.mono fun e w' hP => by
    obtain ⟨v, he, ho, hu⟩ : ∃ v, e = .returned (.tuple #[wrV y v, .string (bs b), .bool true]) ∧ ownPr w' w.heap.size v y.k.ps ∧ Up w w' := hP
    exact ⟨_, he, hu, v, rfl, (RdP.of_own ho).low hb⟩⟩
/-- One part more: what is known of the writer, of a reader of its bytes, and of one of the kept bits besides. -/
theorem part_known {k : KnD} {D : List UInt8} {d p : List UInt8} {x : WrD} {out : List UInt8} (hk : k.Ok) (hv : k.vl) (h : WkInv k d x out) (hl : ∀ b ∈ D, b.toNat < k.c) (hD : D.length ≤ 2000) (hdp : ∃ r, D = (d ++ p) ++ r) :
    wdO x p = some (x.write p) ∧ WkInv k (d ++ p) (x.write p).1 (out ++ (x.write p).2) ∧ (out ++ (x.write p).2).length ≤ 4000 ∧ (x.write p).2.length ≤ 41000 ∧ (d ++ p).length ≤ 2000 ∧
    (rvS k []).read (out ++ (x.write p).2) = (rvS k (out ++ (x.write p).2), (readS k (out ++ (x.write p).2)).data, ((rvS k []).read (out ++ (x.write p).2)).2.2) ∧
    (readS k (out ++ (x.write p).2)).fin = 1 ∧ (readS k (out ++ (x.write p).2)).data.length + (x.write p).1.pend.length ≤ (d ++ p).length ∧ (d ++ p).take (readS k (out ++ (x.write p).2)).data.length = (readS k (out ++ (x.write p).2)).data ∧
    (((rvS k (out ++ (x.write p).2)).read (packL k.set.ord (x.write p).1.bits)).1.fin = 1 → (d ++ p).length ≤ ((readS k (out ++ (x.write p).2)).data ++ ((rvS k (out ++ (x.write p).2)).read (packL k.set.ord (x.write p).1.bits)).2.1).length + (x.write p).1.pend.length) ∧
    ((rvS k (out ++ (x.write p).2)).read (packL k.set.ord (x.write p).1.bits)).2.1.length ≤ 2000 ∧ ((rvS k []).read (out ++ (x.write p).2)).2.2 ≤ 4000 ∧ ((rvS k (out ++ (x.write p).2)).read (packL k.set.ord (x.write p).1.bits)).2.2 ≤ 4000 := by
  obtain ⟨r, hr⟩ := hdp
  have hlen := congrArg List.length hr
  rw [List.length_append] at hlen
  have hx : ∀ b ∈ p, b.toNat < k.c := fun b hb => hl b (by rw [hr]; exact List.mem_append_left _ (List.mem_append_right _ hb))
  have hdl : ∀ b ∈ d ++ p, b.toNat < k.c := fun b hb => hl b (by rw [hr]; exact List.mem_append_left _ hb)
  have hpd : x.pend.length ≤ d.length := by
    rcases h.st with ⟨b1, h2, -, -⟩ | ⟨-, C, P, -, -, -, -, -, -, h9⟩
    · rw [(h.ok.2.2.2.2.2.2.2 b1).1]; simp
    · have := congrArg List.length h9
      rw [List.length_append] at this
      omega
  have h2 : (x.pend ++ p).length ≤ 2000 := by
    rw [List.length_append]
    rw [List.length_append] at hlen
    omega
  have hN := h.next hk hx h2
  have hR := hN.read hk hv hdl (by omega)
  obtain ⟨r1, r2, r3, r4, r5⟩ := hR
  have hc : clr x.k.set = k.c := by rw [h.set]; rfl
  have hw : wdO x p = some (x.write p) := by
    refine wdO_some ?_
    rw [wrvB_of h.ok, fitsB_iff h.ok.1.set h2, Bool.true_and]
    simp only [litsL, List.all_eq_true, decide_eq_true_eq]
    intro b hb
    rw [hc]
    rcases List.mem_append.1 hb with hb | hb
    · exact h.lits b hb
    · exact hx b hb
  have hwl : (x.write p).2.length ≤ 41000 := by
    rcases wdO_case (x := x) (d := p) with ⟨e, -, -⟩ | ⟨q, e, -, -, -, e5⟩
    · rw [hw] at e; cases e
    · rw [hw] at e; cases e; exact e5
  obtain ⟨s1, s2, -, -⟩ := rvS_read hk hv [] (out ++ (x.write p).2)
  rw [List.nil_append] at s1 s2
  have hn0 : (readS k []).data = [] := rfl
  rw [hn0, List.nil_append] at s2
  obtain ⟨t1, t2, -, -⟩ := rvS_read hk hv (out ++ (x.write p).2) (packL k.set.ord (x.write p).1.bits)
  have hpk : (packL k.set.ord (x.write p).1.bits).length ≤ 4000 := by
    rw [packL_length]
    have := hN.ok.2.2.2.2.2.1
    omega
  have b1 := RvD.read_bd (rvS_ok hk hv []) (s := out ++ (x.write p).2) r1
  have b2 := RvD.read_bd (rvS_ok hk hv (out ++ (x.write p).2)) (s := packL k.set.ord (x.write p).1.bits) hpk
  refine ⟨hw, hN, r1, hwl, by omega, ?_, r2, r3, r4, ?_, b2.1, b1.2, b2.2⟩
  · rw [← s1, s2]
  · intro hf
    rw [t1] at hf
    rw [← t2]
    exact r5 hf

def RelWk (k : KnD) (ps : List ByteArray) (b : Nat) (w1 : World) (out d i : Value) (wr : World) : Prop := ∃ (j : Nat) (x : WrD) (v : Value) (o : List UInt8), j ≤ ps.length ∧ out = .string (bs o) ∧ d = .string (bs (joinL (ps.take j))) ∧ i = .int .i64 j ∧ WkInv k (joinL (ps.take j)) x o ∧ WrAt b x v wr ∧ RdP 0 wr v x.k.ps ∧ Up w1 wr

set_option maxRecDepth 100000 in
set_option maxHeartbeats 16000000 in
theorem walk (vc : Value) (lc : List UInt8) (w : World) (hc : ArgU w vc lc) :
    Calls Tryz.prog 4  #[vc] w (Same (.bool true) w) := by
  have cD := fun w' hu => drawWriteAll_any vc lc w' (hc.up (w' := w') hu)
  obtain ⟨ac, cc, rfl, hc1, hc2, -⟩ := hc
  unfold maxLen at hc2
  by_cases h1 : 1048576 < lc.length
  · go_enter Tryz.func4, Tryz.ntmps4
    go_wp2_with fail
    go_ret
    exact ⟨rfl, by (repeat (first | with_reducible exact Up.refl _ | with_reducible assumption | with_reducible refine Up.set ?_ (by first | exact Nat.le_refl _ | (simp only []; omega) | (simp; omega)) _ | with_reducible refine Up.alloc ?_ _ | with_reducible refine Up.drew ?_ | refine Up.trans ?_ (by with_reducible assumption)))⟩
  go_enter Tryz.func4, Tryz.ntmps4
  go_wp2_with fail
  (with_reducible refine (cD _ (by (repeat (first | with_reducible exact Up.refl _ | with_reducible assumption | with_reducible refine Up.set ?_ (by first | exact Nat.le_refl _ | (simp only []; omega) | (simp; omega)) _ | with_reducible refine Up.alloc ?_ _ | with_reducible refine Up.drew ?_ | refine Up.trans ?_ (by with_reducible assumption))))).mono ?_); rintro e w1 ⟨k, u, vp, ps, rfl, hrd, hlt, hps, hp, hn, hz, U1⟩
  obtain ⟨a, cap, rfl, -⟩ := id hrd
  obtain ⟨ap, cp, rfl, hpm, -, -⟩ := id hp
  unfold maxLen at hpm
  simp only [kV]
  go_wp2_with fail
  have hX := (MapKept.heap_alloc w1 (.cells #[.int .i64 k.set.ord, .int .i64 k.set.lit, .int .i64 k.set.most, .slice a k.ps.length cap, .int .i64 k.base, .int .i64 k.last] 27)).1
  have hUa := (Up.refl w1).alloc (.cells #[.int .i64 k.set.ord, .int .i64 k.set.lit, .int .i64 k.set.most, .slice a k.ps.length cap, .int .i64 k.base, .int .i64 k.last] 27)
  have hUw : Up w (w1.alloc (.cells #[.int .i64 k.set.ord, .int .i64 k.set.lit, .int .i64 k.set.most, .slice a k.ps.length cap, .int .i64 k.base, .int .i64 k.last] 27)) := by (repeat (first | with_reducible exact Up.refl _ | with_reducible assumption | with_reducible refine Up.set ?_ (by first | exact Nat.le_refl _ | (simp only []; omega) | (simp; omega)) _ | with_reducible refine Up.alloc ?_ _ | with_reducible refine Up.drew ?_ | refine Up.trans ?_ (by with_reducible assumption)))
  have hrd := hrd.up hUa
  have hp := hp.up hUa
  have hs1 : ∀ s ∈ ps, s.size ≤ 1048576 := fun s hs => by have := hz s hs; omega
  have hs2 : ∀ s ∈ ps, s.size ≤ 10000 := fun s hs => by have := hz s hs; omega
  have cI := fun wq h h' => waI_any k (.slice a k.ps.length cap) (.slice ap ps.length cp) 0 ps wq hlt h (by omega) h' (by omega) hs1
  have cS := fun wq h h' => waS_any k (.slice a k.ps.length cap) (.slice ap ps.length cp) 0 ps wq h (by omega) h' (by omega) hs1
  have cJ := fun wq h => soJoined_any ps (.slice ap ps.length cp) wq h (by omega) hs2
  have hjl := joinL_len (n := 10000) ps hs2
  have hbz := bs_size (joinL ps)
  have hw : (joinL ps).length ≤ 2000 → waG k ps = compG k (joinL ps) := waG_comp k ps
  have hJ : (joinL ps).length ≤ 1000000 := by omega
  clear cD U1 hs1 hjl hUa
  simp only [kV] at cI cS
  have HP := Lib.hid (And.intro hrd (And.intro hp hUw))
  by_cases hlen : (joinL ps).length ≤ 2000
  · rw [hw hlen] at cI cS
    cases hb : (validK k && fitsB k.set (joinL ps))
    · rw [compG_none hb, optS_no] at cI cS
      clear hw hb hJ hbz cJ
      generalize (w1.alloc (.cells #[.int .i64 k.set.ord, .int .i64 k.set.lit, .int .i64 k.set.most, .slice a k.ps.length cap, .int .i64 k.base, .int .i64 k.last] 27)) = W at *
      (with_reducible refine (cI _ hrd hp).mono ?_); rintro e w2 ⟨rfl, U2⟩
      have hX := box_up U2 hX
      obtain ⟨k0, k1, k2, k3, k4, k5⟩ := And.intro (box_cell hX 0) (And.intro (box_cell hX 1) (And.intro (box_cell hX 2) (And.intro (box_cell hX 3) (And.intro (box_cell hX 4) (box_cell hX 5))))); simp at k0 k1 k2 k3 k4 k5
      go_wp2_with fail
      (with_reducible refine (cS _ (hrd.up U2) (hp.up U2)).mono ?_); rintro e w3 ⟨rfl, U3⟩
      go_wp2_with fail
      go_ret
      exact ⟨ret_bool (by simp; try rfl), (hUw.trans U2).trans U3⟩
    · obtain ⟨hv1, hv2⟩ := Bool.and_eq_true_iff.1 hb
      obtain ⟨hk, hv⟩ := ok_of_valid hv1
      obtain ⟨-, -, hll⟩ := fitsB_lits hv2
      rw [compG_some hv1 hv2] at cI cS
      unfold optS at cI cS
      simp only [Option.getD_some, Option.isSome_some] at cI cS
      have hov := (setOk_bd hk.set).1
      have HK := Lib.hid (And.intro hk (And.intro hv (And.intro hll hv1)))
      have cN := fun wq h => nwI_any k (.slice a k.ps.length cap) 0 wq hlt h (by omega)
      have cR := fun wq h => nrI_any k (.slice a k.ps.length cap) 0 wq hk hv h
      obtain ⟨C, hC⟩ : ∃ C, Hid (C = compL k (joinL ps)) := ⟨_, rfl⟩
      rw [← hC.out] at cI cS
      have hCz := bs_size C
      simp only [kV] at cN cR
      have hpd : ¬ (2000 : Int) < ((joinL ps).length : Int) := by omega
      have HD := Lib.hid hlen
      have HZ := Lib.hid hz
      clear hw hb hJ hk hv hll hv1 hv2 hz hs2 HP
      generalize (w1.alloc (.cells #[.int .i64 k.set.ord, .int .i64 k.set.lit, .int .i64 k.set.most, .slice a k.ps.length cap, .int .i64 k.base, .int .i64 k.last] 27)) = W at *
      (with_reducible refine (cI _ hrd hp).mono ?_); rintro e w2 ⟨rfl, U2⟩
      have hX := box_up U2 hX
      obtain ⟨k0, k1, k2, k3, k4, k5⟩ := And.intro (box_cell hX 0) (And.intro (box_cell hX 1) (And.intro (box_cell hX 2) (And.intro (box_cell hX 3) (And.intro (box_cell hX 4) (box_cell hX 5))))); simp at k0 k1 k2 k3 k4 k5
      go_wp2_with fail
      (with_reducible refine (cS _ (hrd.up U2) (hp.up U2)).mono ?_); rintro e w3 ⟨rfl, U3⟩
      have hX := box_up U3 hX
      have hrd := (hrd.up U2).up U3
      have hp := (hp.up U2).up U3
      have hU3 := (hUw.trans U2).trans U3
      clear k0 k1 k2 k3 k4 k5 U2 U3 hUw cI cS
      obtain ⟨k0, k1, k2, k3, k4, k5⟩ := And.intro (box_cell hX 0) (And.intro (box_cell hX 1) (And.intro (box_cell hX 2) (And.intro (box_cell hX 3) (And.intro (box_cell hX 4) (box_cell hX 5))))); simp at k0 k1 k2 k3 k4 k5
      go_wp2_with fail
      (with_reducible refine (cJ _ hp).mono ?_); rintro e w4 ⟨rfl, rfl⟩
      go_wp2_with fail
      (with_reducible refine (cN _ hrd).mono ?_); rintro e w5 hP
      unfold NwPost at hP
      rw [if_pos HK.out.2.2.2] at hP
      obtain ⟨v5, rfl, ho5, U5⟩ := hP
      obtain ⟨a5, c5, rfl⟩ := ownsRow_shape ho5
      have hX := box_up U5 hX
      have hrd := hrd.up U5
      have hp := hp.up U5
      have hU5 := hU3.trans U5
      clear k0 k1 k2 k3 k4 k5 U5 hU3 cJ cN hbz hpd
      unfold wrV
      go_wp2_with fail
      have hUb := (Up.refl w5).alloc (.cells #[.int .i64 k.set.ord, .int .i64 k.set.lit, .int .i64 k.set.most, .slice a5 k.ps.length c5, .int .i64 k.base, .int .i64 k.last, .string (bs []), .string (bs []), .bool false] 37)
      have hL0 : RelWk k ps w5.heap.size w5 (.string ⟨#[]⟩) (.string ⟨#[]⟩) (.int .i64 0) (w5.alloc (.cells #[.int .i64 k.set.ord, .int .i64 k.set.lit, .int .i64 k.set.most, .slice a5 k.ps.length c5, .int .i64 k.base, .int .i64 k.last, .string (bs []), .string (bs []), .bool false] 37)) :=
        ⟨0, ⟨k, [], [], false⟩, .slice a5 k.ps.length c5, [], Nat.zero_le _, rfl, rfl, rfl, WkInv.start HK.out.1 HK.out.2.1, (MapKept.heap_alloc w5 _).1, ((RdP.of_own ho5).low (Nat.zero_le _)).up hUb, hUb⟩
      have HL0 := Lib.hid hL0
      have H5 := Lib.hid (And.intro hX (And.intro hrd hp))
      clear hL0 hUb ho5
      generalize (w5.alloc (.cells #[.int .i64 k.set.ord, .int .i64 k.set.lit, .int .i64 k.set.most, .slice a5 k.ps.length c5, .int .i64 k.base, .int .i64 k.last, .string (bs []), .string (bs []), .bool false] 37)) = W6 at *
      go_loopw [11, 12, 13] (fun out d i wr => RelWk k ps w5.heap.size w5 out d i wr) (fun _ _ i _ => ps.length - (intOf i).toNat)
      case atStart => exact HL0.out
      case round =>
        clear HL0
        obtain ⟨j, x, v, o, hj, rfl, rfl, rfl, hK, hXw, hrx, hU⟩ := hrel
        by_cases hlj : j < ps.length
        · obtain ⟨gb, off, rfl, hgb5, hgk5, -, hnc, hcm⟩ := hp.at hlj
          unfold maxLen at hcm
          have hTk := joinL_take ps hlj
          have hDr : ∃ r, joinL ps = (joinL (ps.take j) ++ (ps[j]).data.toList) ++ r := ⟨joinL (ps.drop (j + 1)), by rw [← hTk]; unfold joinL; rw [← List.flatten_append, ← List.map_append, List.take_append_drop]⟩
          obtain ⟨p1, p2, p3, p4, p5, p6, p7, p8, p9, p10, p11, p12, p13⟩ := part_known HK.out.1 HK.out.2.1 hK HK.out.2.2.1 HD.out hDr
          have hbd := wrOk_bd hK.ok
          have hyb := wrOk_bd p2.ok
          have hy7 := p2.ok.2.2.2.2.2.1
          have hyi := p2.ok.2.2.2.2.1
          have hpsz := HZ.out _ (List.getElem_mem hlj)
          have hpl : (ps[j]).data.toList.length = (ps[j]).size := rfl
          have hro := rvS_ok HK.out.1 HK.out.2.1 (o ++ (x.write (ps[j]).data.toList).2)
          have hr0 := rvS_ok HK.out.1 HK.out.2.1 []
          have hpk : (packL k.set.ord (x.write (ps[j]).data.toList).1.bits).length ≤ 4000 := by rw [packL_length]; omega
          have cI1 : ∀ wq v, RdP 0 wq v x.k.ps → Calls Tryz.prog 12  #[wrV x v, .string (ps[j])] wq (WdPost (wdO x (ps[j]).data.toList) wq) := fun wq v h => wdI_any x v 0 (ps[j]).data.toList wq hbd.1 h hbd.2.1 hbd.2.2.1 hbd.2.2.2 (by omega)
          rw [p1] at cI1
          have cP := fun wq => packBI_any k.set.ord (bs (x.write (ps[j]).data.toList).1.bits) wq hov (by rw [bs_data]; exact hyi) (by rw [bs_size]; omega)
          have cR1 : ∀ wq v, RdP 0 wq v k.ps → Calls Tryz.prog 15  #[rvV (rvS k []) v, .string (bs (o ++ (x.write (ps[j]).data.toList).2))] wq (RsPost ((rvS k []).read (o ++ (x.write (ps[j]).data.toList).2)) wq) := fun wq v h => by
            have := rsI_any (rvS k []) v 0 (bs (o ++ (x.write (ps[j]).data.toList).2)) wq hr0 h (by rw [bs_size]; exact p3)
            rw [bs_data] at this
            exact this
          have cR2 : ∀ wq v, RdP 0 wq v (rvS k (o ++ (x.write (ps[j]).data.toList).2)).k.ps → Calls Tryz.prog 15  #[rvV (rvS k (o ++ (x.write (ps[j]).data.toList).2)) v, .string (bs (packL k.set.ord (x.write (ps[j]).data.toList).1.bits))] wq (RsPost ((rvS k (o ++ (x.write (ps[j]).data.toList).2)).read (packL k.set.ord (x.write (ps[j]).data.toList).1.bits)) wq) := fun wq v h => by
            have := rsI_any (rvS k (o ++ (x.write (ps[j]).data.toList).2)) v 0 (bs (packL k.set.ord (x.write (ps[j]).data.toList).1.bits)) wq hro h (by rw [bs_size]; exact hpk)
            rw [bs_data] at this
            exact this
          rw [bs_data] at cP
          rw [p6] at cR1
          have hrv0 : rvS k [] = ⟨k, [], 0, 0, 1⟩ := rvS_nil HK.out.1
          rw [hrv0] at cR1 p12
          have hf1 : (rvS k (o ++ (x.write (ps[j]).data.toList).2)).fin = 1 := p7
          have HNX := Lib.hid (show WkInv k (joinL (ps.take (j + 1))) (x.write (ps[j]).data.toList).1 (o ++ (x.write (ps[j]).data.toList).2) from by rw [hTk]; exact p2)
          have HTK := Lib.hid hTk
          clear p1 p2 p6 p7 hK hDr hTk hr0 hro hpl hrv0 hpk hyi hX hrd hp hbd
          generalize x.write (ps[j]).data.toList = X at *
          obtain ⟨y1, b1⟩ := X
          dsimp only at *
          generalize joinL (ps.take j) = d0 at *
          generalize ps[j] = s1 at *
          generalize packL k.set.ord y1.bits = pk at *
          generalize (RvD.read ⟨k, [], 0, 0, 1⟩ (o ++ b1)).2.2 = n1 at *
          generalize (rvS k (o ++ b1)).read pk = Z at *
          obtain ⟨r2, D2, n2⟩ := Z
          dsimp only at *
          generalize (readS k (o ++ b1)).data = D1 at *
          generalize rvS k (o ++ b1) = r1 at *
          unfold RsPost at cR1 cR2
          dsimp only at cR1 cR2
          simp only [rvV, Int.natCast_zero] at cR1 cR2 cR
          obtain ⟨av, cv, rfl, -⟩ := id hrx
          unfold wrV at cI1
          obtain ⟨hbk, q0, q1, q2, q3, q4, q5, q6, q7, q8⟩ := hXw.cells
          have hgw : gb < wr.heap.size := by have := hU.size; omega
          have hgk : wr.cell? ⟨gb, off + j, none⟩ = some (.string s1) := (hU.cell (p := ⟨gb, _, none⟩) hgb5).trans hgk5
          go_wp2_with fail
          refine wp_region_upf 10 (by kernel_rfl) (by kernel_rfl) ?_
          simp only [List.take, List.drop]
          repeat (refine wpUp_step (fun K hK => ?_); go_simp; (try simp only [↓IntWalk.iteOmega]); first
            | (refine hK _ _ ?_; clear hK K)
            | (apply stepU_c
               · intro wq hwq; (have hbq := bcell hwq; (repeat (first | refine fills_no (by rfl) ?_ | refine fills_yes (by rfl) (fun vq hvq => ?_))); simp only [List.filter_nil, fills]; unfold upAt; (try ((obtain ⟨v', rfl, hv'⟩ := hvq))); go_simp; (try go_bits); (try simp only [↓IntWalk.iteOmega]); (try (rw [dif_pos (by omega)]; go_simp; try go_bits)); first | exact upOut_value)
               go_simp; refine hK _ _ ?_; clear hK K)
            | (refine stepU_m (by kernel_rfl) (PtM (w5.heap.size + 1) y1 b1) (ptM_closed) (fun wq hwq => ?_) ?_
               · (have hbq := bcell hwq; (repeat (first | refine fills_no (by rfl) ?_ | refine fills_yes (by rfl) (fun vq hvq => ?_))); simp only [List.filter_nil, fills]; unfold upAt; (try ((obtain ⟨v', rfl, hv'⟩ := hvq))); go_simp; (try go_bits); (try simp only [↓IntWalk.iteOmega]); (try (rw [dif_pos (by omega)]; go_simp; try go_bits)); ((with_reducible refine upOut_pt ?_ (by have := hwq.size; omega)); exact cI1 _ _ (hrx.up hwq)))
               refine hK _ _ ?_; clear hK K)
            | (refine stepU_m (by kernel_rfl) (PtM (w5.heap.size + 1) y1 b1) (ptM_closed) (fun wq hwq => ?_) ?_
               · (have hbq := bcell hwq; (repeat (first | refine fills_no (by rfl) ?_ | refine fills_yes (by rfl) (fun vq hvq => ?_))); simp only [List.filter_nil, fills]; unfold upAt; (try ((obtain ⟨v', rfl, hv'⟩ := hvq))); go_simp; (try go_bits); (try simp only [↓IntWalk.iteOmega]); (try (rw [dif_pos (by omega)]; go_simp; try go_bits)); (exact ⟨Up.refl _, v', rfl, hv'⟩))
               refine hK _ _ ?_; clear hK K)
            | (refine stepU_m (by kernel_rfl) (WrO (w5.heap.size + 1) y1) (wrO_closed) (fun wq hwq => ?_) ?_
               · (have hbq := bcell hwq; (repeat (first | refine fills_no (by rfl) ?_ | refine fills_yes (by rfl) (fun vq hvq => ?_))); simp only [List.filter_nil, fills]; unfold upAt; (try ((obtain ⟨v', rfl, hv'⟩ := hvq))); go_simp; (try go_bits); (try simp only [↓IntWalk.iteOmega]); (try (rw [dif_pos (by omega)]; go_simp; try go_bits)); (exact ⟨Up.refl _, v', rfl, hv'⟩))
               refine hK _ _ ?_; clear hK K))
          refine wpUp_nil (fun wq hwq => ?_)
          simp only [fills]
          rintro u1 ⟨v9, rfl, hv9⟩ u2 ⟨v2', rfl, -⟩ u3 ⟨v3', rfl, -⟩
          obtain ⟨a9, c9, rfl, -⟩ := id hv9
          have hXq := hXw.up hwq
          have hK2 : WrAt w5.heap.size y1 (.slice a9 y1.k.ps.length c9) (WrW wq w5.heap.size y1 (.slice a9 y1.k.ps.length c9)) := WrAt.store hXq y1 _
          have hr9 : RdP 0 (WrW wq w5.heap.size y1 (.slice a9 y1.k.ps.length c9)) (.slice a9 y1.k.ps.length c9) y1.k.ps := by
            unfold WrW KnW
            refine RdP.low (lo := w5.heap.size + 1) ?_ (Nat.zero_le _)
            (repeat (with_reducible refine RdP.set ?_ (Nat.lt_succ_self _) _ _)); exact hv9
          have hU9 : Up w5 (WrW wq w5.heap.size y1 (.slice a9 y1.k.ps.length c9)) := WrW.up (hU.trans hwq) (Nat.le_refl _) y1 _
          have HH := Lib.hid (And.intro hK2 (And.intro hr9 hU9))
          obtain ⟨hbq, s0, s1', s2, s3, s4, s5, s6, s7, s8⟩ := hXq.cells
          have hfr := box_free hXq
          clear hK2 hr9 hU9 hXq hv9 hrx hXw q0 q1 q2 q3 q4 q5 q6 q7 q8 hU hgk cI1
          unfold wrV
          go_simp
          iterate 4 go_step
          rw [show (((((((((wq.setCell ⟨w5.heap.size, 0, none⟩ (.int .i64 y1.k.set.ord)).setCell ⟨w5.heap.size, 1, none⟩ (.int .i64 y1.k.set.lit)).setCell ⟨w5.heap.size, 2, none⟩ (.int .i64 y1.k.set.most)).setCell ⟨w5.heap.size, 3, none⟩ (.slice a9 y1.k.ps.length c9)).setCell ⟨w5.heap.size, 4, none⟩ (.int .i64 y1.k.base)).setCell ⟨w5.heap.size, 5, none⟩ (.int .i64 y1.k.last)).setCell ⟨w5.heap.size, 6, none⟩ (.string (bs y1.pend))).setCell ⟨w5.heap.size, 7, none⟩ (.string (bs y1.bits))).setCell ⟨w5.heap.size, 8, none⟩ (.bool y1.beg)) = WrW wq w5.heap.size y1 (.slice a9 y1.k.ps.length c9) from rfl]
          generalize WrW wq w5.heap.size y1 (.slice a9 y1.k.ps.length c9) = W9 at *
          clear s0 s1' s2 s3 s4 s5 s6 s7 s8 hfr hbq hwq
          have hU9 := HH.out.2.2
          have hX9 := box_up hU9 H5.out.1
          obtain ⟨k0, k1, k2, k3, k4, k5⟩ := And.intro (box_cell hX9 0) (And.intro (box_cell hX9 1) (And.intro (box_cell hX9 2) (And.intro (box_cell hX9 3) (And.intro (box_cell hX9 4) (box_cell hX9 5))))); simp at k0 k1 k2 k3 k4 k5
          obtain ⟨hbw, q0, q1, q2, q3, q4, q5, q6, q7, q8⟩ := HH.out.1.cells
          have hgw : gb < W9.heap.size := by have := hU9.size; omega
          have hgk : W9.cell? ⟨gb, off + j, none⟩ = some (.string s1) := (hU9.cell (p := ⟨gb, _, none⟩) hgb5).trans hgk5
          have hzo := bs_size o
          have hzb := bs_size b1
          have hzd := bs_size d0
          have hol : o.length + b1.length ≤ 4000 := by rw [List.length_append] at p3; exact p3
          have hdl : d0.length + s1.size ≤ 2000 := by rw [List.length_append] at p5; exact p5
          have hc1 : bs o ++ bs b1 = bs (o ++ b1) := bs_app _ _
          have hc2 : bs d0 ++ s1 = bs (d0 ++ s1.data.toList) := by rw [← bs_app]; rfl
          clear hX9
          go_wp2_with fail
          rw [onlyN_normal]
          go_wp2_with fail
          (with_reducible refine (cP _).mono ?_); rintro e w10 ⟨rfl, U10⟩
          have hX10 := box_up (hU9.trans U10) H5.out.1
          clear k0 k1 k2 k3 k4 k5 q0 q1 q2 q3 q4 q5 q6 q7 q8 hbw hgk cP
          obtain ⟨k0, k1, k2, k3, k4, k5⟩ := And.intro (box_cell hX10 0) (And.intro (box_cell hX10 1) (And.intro (box_cell hX10 2) (And.intro (box_cell hX10 3) (And.intro (box_cell hX10 4) (box_cell hX10 5))))); simp at k0 k1 k2 k3 k4 k5
          clear hX10
          go_wp2_with fail
          (with_reducible refine (cR _ (H5.out.2.1.up (hU9.trans U10))).mono ?_); rintro e w11 ⟨v11, rfl, ho11, U11⟩
          obtain ⟨a11, c11, rfl⟩ := ownsRow_shape ho11
          clear k0 k1 k2 k3 k4 k5
          go_wp2_with fail
          have hUc := (Up.refl w11).alloc (.cells #[.int .i64 k.set.ord, .int .i64 k.set.lit, .int .i64 k.set.most, .slice a11 k.ps.length c11, .int .i64 k.base, .int .i64 k.last, .string (bs []), .int .i64 (0 : Nat), .int .i64 (0 : Nat), .int .i64 1] 44)
          have HV := Lib.hid (U10.trans (U11.trans hUc))
          have hZ11 := (U10.trans U11).size
          have hT : RvAt w11.heap.size ⟨k, [], 0, 0, 1⟩ (.slice a11 k.ps.length c11) (w11.alloc (.cells #[.int .i64 k.set.ord, .int .i64 k.set.lit, .int .i64 k.set.most, .slice a11 k.ps.length c11, .int .i64 k.base, .int .i64 k.last, .string (bs []), .int .i64 (0 : Nat), .int .i64 (0 : Nat), .int .i64 1] 44)) := (MapKept.heap_alloc w11 _).1
          have hr11 : RdP 0 (w11.alloc (.cells #[.int .i64 k.set.ord, .int .i64 k.set.lit, .int .i64 k.set.most, .slice a11 k.ps.length c11, .int .i64 k.base, .int .i64 k.last, .string (bs []), .int .i64 (0 : Nat), .int .i64 (0 : Nat), .int .i64 1] 44)) (.slice a11 k.ps.length c11) k.ps := ((RdP.of_own ho11).low (Nat.zero_le _)).up hUc
          have hlt11 : w11.heap.size < (w11.alloc (.cells #[.int .i64 k.set.ord, .int .i64 k.set.lit, .int .i64 k.set.most, .slice a11 k.ps.length c11, .int .i64 k.base, .int .i64 k.last, .string (bs []), .int .i64 (0 : Nat), .int .i64 (0 : Nat), .int .i64 1] 44)).heap.size := (Array.getElem?_eq_some_iff.1 hT).1
          clear hUc U10 U11 ho11
          generalize w11.alloc (.cells #[.int .i64 k.set.ord, .int .i64 k.set.lit, .int .i64 k.set.most, .slice a11 k.ps.length c11, .int .i64 k.base, .int .i64 k.last, .string (bs []), .int .i64 (0 : Nat), .int .i64 (0 : Nat), .int .i64 1] 44) = W12 at *
          (with_reducible refine (cR1 _ _ hr11).mono ?_); rintro e w13 ⟨v13, rfl, ho13, U13⟩
          obtain ⟨a13, c13, rfl⟩ := ownsRow_shape ho13
          have hT13 := hT.up U13
          have hne13 : some w11.heap.size ≠ (Value.slice a13 r1.k.ps.length c13).ownBlock := low_ne (w := w) ho13 hlt11
          have HJ := Lib.hid (And.intro (RvAt.store hT13 r1 (.slice a13 r1.k.ps.length c13)) (And.intro (RvW.own ho13 hne13 r1 (.slice a13 r1.k.ps.length c13)) (RvW.up (b := w11.heap.size) (HV.out.trans U13) hZ11 r1 (.slice a13 r1.k.ps.length c13))))
          obtain ⟨hbq, s0, s1', s2, s3, s4, s5, s6, s7, s8, s9⟩ := hT13.cells
          have hfr := box_free hT13
          have HF1 := Lib.hid hf1
          clear hT hT13 hr11 ho13 cR1 U13 hne13 HV hf1
          go_simp
          iterate 20 go_step
          rw [show ((((((((((w13.setCell ⟨w11.heap.size, 0, none⟩ (.int .i64 r1.k.set.ord)).setCell ⟨w11.heap.size, 1, none⟩ (.int .i64 r1.k.set.lit)).setCell ⟨w11.heap.size, 2, none⟩ (.int .i64 r1.k.set.most)).setCell ⟨w11.heap.size, 3, none⟩ (.slice a13 r1.k.ps.length c13)).setCell ⟨w11.heap.size, 4, none⟩ (.int .i64 r1.k.base)).setCell ⟨w11.heap.size, 5, none⟩ (.int .i64 r1.k.last)).setCell ⟨w11.heap.size, 6, none⟩ (.string (bs r1.bits))).setCell ⟨w11.heap.size, 7, none⟩ (.int .i64 (r1.size : Nat))).setCell ⟨w11.heap.size, 8, none⟩ (.int .i64 (r1.cnt : Nat))).setCell ⟨w11.heap.size, 9, none⟩ (.int .i64 r1.fin)) = RvW w13 w11.heap.size r1 (.slice a13 r1.k.ps.length c13) from rfl]
          generalize RvW w13 w11.heap.size r1 (.slice a13 r1.k.ps.length c13) = W14 at *
          clear s0 s1' s2 s3 s4 s5 s6 s7 s8 s9 hfr hbq
          obtain ⟨hbq, s0, s1', s2, s3, s4, s5, s6, s7, s8, s9⟩ := HJ.out.1.cells
          obtain ⟨hbw, q0, q1, q2, q3, q4, q5, q6, q7, q8⟩ := (HH.out.1.up HJ.out.2.2).cells
          have hg1 : (r1.fin == 1) = true := by rw [HF1.out]; rfl
          have hg1' : (r1.fin != 1) = false := by rw [HF1.out]; rfl
          have hzp := bs_size y1.pend
          have hzq := bs_size D1
          have hzr := bs_size D2
          have hzt := bs_size (d0 ++ s1.data.toList)
          have hex : (bs (d0 ++ s1.data.toList)).extract 0 D1.length = bs D1 := by rw [bs_ext, List.drop_zero, Nat.sub_zero, p9]
          have hD1 : D1.length ≤ 2000 := by omega
          have hdz : (d0 ++ s1.data.toList).length = d0.length + s1.size := by rw [List.length_append]; rfl
          have HR14 := Lib.hid ((RdP.of_own HJ.out.2.1).low (Nat.zero_le _))
          go_wp2_with fail
          (with_reducible refine (cR2 _ _ HR14.out).mono ?_); rintro e w15 ⟨v15, rfl, ho15, U15⟩
          obtain ⟨a15, c15, rfl⟩ := ownsRow_shape ho15
          have hT15 := HJ.out.1.up U15
          have HM := Lib.hid (And.intro (RvAt.store hT15 r2 (.slice a15 r2.k.ps.length c15)) (RvW.up (b := w11.heap.size) (HJ.out.2.2.trans U15) hZ11 r2 (.slice a15 r2.k.ps.length c15)))
          clear s0 s1' s2 s3 s4 s5 s6 s7 s8 s9 hbq q0 q1 q2 q3 q4 q5 q6 q7 q8 hbw cR2 HR14 ho15 hg1 hg1' hex
          obtain ⟨hbq, s0, s1', s2, s3, s4, s5, s6, s7, s8, s9⟩ := hT15.cells
          have hfr := box_free hT15
          clear hT15 U15 HJ
          go_simp
          iterate 20 go_step
          rw [show ((((((((((w15.setCell ⟨w11.heap.size, 0, none⟩ (.int .i64 r2.k.set.ord)).setCell ⟨w11.heap.size, 1, none⟩ (.int .i64 r2.k.set.lit)).setCell ⟨w11.heap.size, 2, none⟩ (.int .i64 r2.k.set.most)).setCell ⟨w11.heap.size, 3, none⟩ (.slice a15 r2.k.ps.length c15)).setCell ⟨w11.heap.size, 4, none⟩ (.int .i64 r2.k.base)).setCell ⟨w11.heap.size, 5, none⟩ (.int .i64 r2.k.last)).setCell ⟨w11.heap.size, 6, none⟩ (.string (bs r2.bits))).setCell ⟨w11.heap.size, 7, none⟩ (.int .i64 (r2.size : Nat))).setCell ⟨w11.heap.size, 8, none⟩ (.int .i64 (r2.cnt : Nat))).setCell ⟨w11.heap.size, 9, none⟩ (.int .i64 r2.fin)) = RvW w15 w11.heap.size r2 (.slice a15 r2.k.ps.length c15) from rfl]
          generalize RvW w15 w11.heap.size r2 (.slice a15 r2.k.ps.length c15) = W16 at *
          clear s0 s1' s2 s3 s4 s5 s6 s7 s8 s9 hfr hbq
          obtain ⟨hbq, s0, s1', s2, s3, s4, s5, s6, s7, s8, s9⟩ := HM.out.1.cells
          obtain ⟨hbw, q0, q1, q2, q3, q4, q5, q6, q7, q8⟩ := (HH.out.1.up HM.out.2).cells
          have hc3 : bs D1 ++ bs D2 = bs (D1 ++ D2) := bs_app _ _
          have hzx := bs_size (D1 ++ D2)
          have hzy : (D1 ++ D2).length = D1.length + D2.length := List.length_append
          have hfin : r2.fin = 1 ∨ r2.fin ≠ 1 := by omega
          rcases hfin with hf2 | hf2
          · have hle := p10 hf2
            have hg2 : (r2.fin == 1) = true := by rw [hf2]; rfl
            clear hf2 p10
            go_wp2_with fail
            go_roundw
            case rel => exact ⟨j + 1, y1, .slice a9 y1.k.ps.length c9, o ++ b1, by omega, rfl, by rw [HTK.out], by go_num, HNX.out, HH.out.1.up HM.out.2, HH.out.2.1.up HM.out.2, hU9.trans HM.out.2⟩
            case measure => simp [intOf]; omega
          · have hg2 : (r2.fin == 1) = false := by simpa using hf2
            clear hf2 p10
            go_wp2_with fail
            go_roundw
            case rel => exact ⟨j + 1, y1, .slice a9 y1.k.ps.length c9, o ++ b1, by omega, rfl, by rw [HTK.out], by go_num, HNX.out, HH.out.1.up HM.out.2, HH.out.2.1.up HM.out.2, hU9.trans HM.out.2⟩
            case measure => simp [intOf]; omega
        · have e : j = ps.length := by omega
          subst e
          rw [List.take_length] at *
          have hF := WaInv.fin HK.out.1 HK.out.2.2.1 HD.out hK.wa
          rw [← hC.out] at hF
          have hoC : (bs C).extract 0 o.length = bs o := by rw [bs_ext, List.drop_zero, Nat.sub_zero, ← hF, List.take_left]
          have hlC : o.length ≤ C.length := by rw [← hF, List.length_append]; omega
          have hzo := bs_size o
          have hUf := hU5.trans hU
          clear hF hK hXw hrx hU hX hrd hp
          go_wp2_with fail
          go_ret
          exact ⟨ret_bool (by simp; try rfl), hUf⟩
  · have hnl : (2000 : Int) < ((joinL ps).length : Int) := by omega
    clear hw hJ HP
    cases hwg : waG k ps with
    | none =>
      rw [hwg, optS_no] at cI cS
      clear hbz cJ hnl hlen
      generalize (w1.alloc (.cells #[.int .i64 k.set.ord, .int .i64 k.set.lit, .int .i64 k.set.most, .slice a k.ps.length cap, .int .i64 k.base, .int .i64 k.last] 27)) = W at *
      (with_reducible refine (cI _ hrd hp).mono ?_); rintro e w2 ⟨rfl, U2⟩
      have hX := box_up U2 hX
      obtain ⟨k0, k1, k2, k3, k4, k5⟩ := And.intro (box_cell hX 0) (And.intro (box_cell hX 1) (And.intro (box_cell hX 2) (And.intro (box_cell hX 3) (And.intro (box_cell hX 4) (box_cell hX 5))))); simp at k0 k1 k2 k3 k4 k5
      go_wp2_with fail
      (with_reducible refine (cS _ (hrd.up U2) (hp.up U2)).mono ?_); rintro e w3 ⟨rfl, U3⟩
      go_wp2_with fail
      go_ret
      exact ⟨ret_bool (by simp; try rfl), (hUw.trans U2).trans U3⟩
    | some c =>
      rw [hwg] at cI cS
      unfold optS at cI cS
      simp only [Option.getD_some, Option.isSome_some] at cI cS
      clear hlen hwg
      generalize (w1.alloc (.cells #[.int .i64 k.set.ord, .int .i64 k.set.lit, .int .i64 k.set.most, .slice a k.ps.length cap, .int .i64 k.base, .int .i64 k.last] 27)) = W at *
      (with_reducible refine (cI _ hrd hp).mono ?_); rintro e w2 ⟨rfl, U2⟩
      have hX := box_up U2 hX
      obtain ⟨k0, k1, k2, k3, k4, k5⟩ := And.intro (box_cell hX 0) (And.intro (box_cell hX 1) (And.intro (box_cell hX 2) (And.intro (box_cell hX 3) (And.intro (box_cell hX 4) (box_cell hX 5))))); simp at k0 k1 k2 k3 k4 k5
      go_wp2_with fail
      (with_reducible refine (cS _ (hrd.up U2) (hp.up U2)).mono ?_); rintro e w3 ⟨rfl, U3⟩
      go_wp2_with fail
      (with_reducible refine (cJ _ ((hp.up U2).up U3)).mono ?_); rintro e w4 ⟨rfl, rfl⟩
      go_wp2_with fail
      go_ret
      exact ⟨ret_bool (by simp; try rfl), (hUw.trans U2).trans U3⟩

set_option maxRecDepth 100000 in
theorem lifted (os : Os) (started : os.Started) (H : Type) (enc : TypeId × Value → H) :
    ReturnsInHanded {} Tryz.checked os 4 .any (Rows.fnWriterKnownSpec.pre6 enc Tryz.prog Tryz.f4 Rows.fnWriterKnownRow.domain false) (Rows.fnWriterKnownSpec.post enc Tryz.prog Tryz.f4 false true false false) := by
  refine returnsInHanded_of_change (C := Tryz.checked) own started (by kernel_rfl) Tryz.func4
    (ChangeSpec.witness6 (enc := enc) (C := Tryz.checked) false ⟨#[], #[.slice none 0 0], []⟩ 8 (by kernel_rfl) (by kernel_rfl) (by kernel_rfl) (by kernel_rfl)) ?_
  intro W base args ds gs before hval0 hW hcnd _
  have hval : ∀ (j : Nat) t v, Tryz.f4.params[j]? = some t → args[j]? = some v → Value.okWide Tryz.prog W .any base t v := hval0
  have hW' := hW
  obtain ⟨p, q, hA0, hV, rfl, hfz, hnd⟩ := hW
  have hA : DataW.TrodAll enc Tryz.prog W 0 (fun _ => true) true Tryz.f4.params.toList args.toList ds p := hA0
  rw [Tryz.params4] at hA hval
  obtain ⟨v0, d0, rfl, rfl, h0⟩ := trodAll_one hA
  obtain ⟨p0, rfl⟩ : ∃ x, x = p := ⟨_, rfl⟩
  obtain ⟨a0, n0, c0, rfl⟩ := okWide_slice Tryz.underlying22 (hval 0 22 v0 rfl rfl)
  have hlt0 : ∀ x ∈ p0, x.block < W.heap.size := fun x hx => by simpa using hW'.lt x (by simp [hx])
  obtain ⟨fuel0, hf0⟩ := h0
  obtain ⟨lcode, hcode⟩ := open_argU (by simpa [Value.cells] using hf0) hlt0
  obtain ⟨rfl, rfl⟩ := trodVars_none hV
  refine (walk _ _ W hcode).mono fun e W' ⟨he, hu⟩ => ?_
  subst he
  exact ⟨_, rfl, post_law (f := Tryz.f4) TryzlaidOut (by kernel_rfl) rfl Tryz.underlying4 rfl hW' (fun ds' h => by subst h; exact ⟨rfl, rfl, rfl⟩) hu⟩

set_option maxHeartbeats 80000000 in
theorem closed : joinedFacts Tryz.checked.prog 4 Tryz.f4 Rows.fnWriterKnownSpec Rows.fnWriterKnownRow = true := by
  unfold joinedFacts
  repeat' (with_reducible refine (Bool.and_eq_true_iff.2 ⟨?_, ?_⟩))
  all_goals (as_aux_lemma => kernel_rfl)

theorem holds : Rows.FnWriterKnownSaid :=
  OpenClaim.holds_of_wide 4 Tryz.f4 rfl rfl rfl rfl rfl rfl rfl ⟨rfl, rfl, rfl, rfl, rfl⟩ rfl rfl rfl rfl rfl (by as_aux_lemma => kernel_rfl) Tryz.func4 closed
    (of_decide_eq_true (by as_aux_lemma => kernel_rfl)) (by unfold Func.isWrapper; first | (rw [if_pos (by decide +kernel)]; kernel_rfl) | (rw [if_neg (by decide +kernel)]; exact ⟨rfl, rfl⟩))
    (fun os started H enc _ => lifted os started H enc)

end Go.Proofs.YtgbakgaegldomaaGreat.lawFnWriterKnown
