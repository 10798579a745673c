/- Walk of the program's newTree. Conditions: what is known is valid and can be read. -/
import Derived.Test.YtiiahjnfbhcgmaaGreatDoorTree8
namespace Go.Proofs.YtiiahjnfbhcgmaaGreatDoor
set_option linter.unusedVariables false
set_option linter.unusedSimpArgs false
open Go Go.RowKit

def litC1 (i : Nat) : List Value := [.int .i64 (-1), .int .i64 (-1), .int .i64 (-1), .int .u8 i, .int .u8 i, .int .i64 i]
def litC (b : Nat) : List Value := (List.range b).flatMap litC1
theorem litC_succ (b : Nat) : litC (b + 1) = litC b ++ litC1 b := by simp [litC, List.range_succ]
theorem litC_one (b : Nat) : ∀ u ∈ litC1 b, u.oneCell' = true := by
  intro u hu
  simp only [litC1, List.mem_cons, List.not_mem_nil, or_false] at hu
  rcases hu with rfl | rfl | rfl | rfl | rfl | rfl <;> rfl
theorem litC_all (c : Nat) : litC c = cellsN (litsN c) := by
  unfold litC cellsN
  rw [litsN_length]
  rw [List.flatMap_def, List.flatMap_def]
  congr 1
  apply List.map_congr_left
  intro i hi
  have hi := List.mem_range.1 hi
  have h1 : lastCh (litsN c) i c = -1 := by
    rcases lastCh_cases (litsN c) i c with ⟨h, _⟩ | ⟨j, hj, _, h3, _⟩
    · exact h
    · rw [litsN_at hj] at h3; simp only [] at h3; omega
  unfold nodC
  rw [litsN_at hi, h1]
  rfl
theorem TreeAt.not_own {lo tb : Nat} {k : KnD} {vp vn vi : Value} {w : World} (h : TreeAt lo tb k vp vn vi w) {b : Nat} {cs : Array Value} {T : TypeId} (hb : w.heap[b]? = some (.cells cs T)) (h1 : T ≠ 89) (h2 : T ≠ 149) (h3 : T ≠ 141) (h4 : T ≠ 3) : ¬ Own tb vp vn vi b := by
  rintro (rfl | e | e | e)
  · have := h.box
    unfold TrBox at this
    rw [hb] at this
    cases this
    exact h1 rfl
  · exact box_ne hb h.prs h2 e.symm
  · exact box_ne hb h.nod h3 e.symm
  · exact box_ne hb h.idx h4 e.symm

/-- What is known, of the first j pairs. -/
def KnD.upto (k : KnD) (j : Nat) : KnD := ⟨k.set, k.ps.take j, k.base, k.last⟩
theorem KnD.upto_tr {k : KnD} (h : k.Tr) (j : Nat) : (k.upto j).Tr := by
  refine ⟨h.set, h.ps.take _, ?_⟩
  have := h.len
  show (k.ps.take j).length + k.c + 1 ≤ lastC k.set
  rw [List.length_take]; omega
theorem KnD.upto_add {k : KnD} {j : Nat} (h : j < k.ps.length) : (k.upto j).add k.ps[j] = k.upto (j + 1) := by
  unfold KnD.upto KnD.add
  rw [List.take_succ_eq_append_getElem h]
theorem KnD.upto_all (k : KnD) : k.upto k.ps.length = k := by unfold KnD.upto; rw [List.take_length]

/-- The first loop: the nodes of the literals. -/
structure Nt1 (k : KnD) (v : Value) (w : World) (b : Nat) (vn : Value) (wr : World) : Prop where
  le : b ≤ clr k.set
  kn : KnAt w.heap.size k v wr
  box : TrBox (w.heap.size + 1) k (.slice none 0 0) vn (.slice none 0 0) wr
  row : wr.ownsRow w.heap.size 141 6 vn b (litC b)
  up : Up w wr
def RelNt1 (k : KnD) (v : Value) (w : World) (i : Value) (wr : World) : Prop := ∃ (b : Nat) (vn : Value), i = .int .i64 b ∧ Nt1 k v w b vn wr
structure Nt2 (k : KnD) (v : Value) (w : World) (j : Nat) (vp vn vi : Value) (wr : World) : Prop where
  le : j ≤ k.ps.length
  kn : KnAt w.heap.size k v wr
  tree : TreeAt w.heap.size (w.heap.size + 1) (k.upto j) vp vn vi wr
  up : Up w wr
def RelNt2 (k : KnD) (v : Value) (w : World) (i : Value) (wr : World) : Prop := ∃ (j : Nat) (vp vn vi : Value), i = .int .i64 j ∧ Nt2 k v w j vp vn vi wr

/-- What newTree leaves. -/
def NewTree (k : KnD) (w : World) (e : Ending) (w' : World) : Prop := ∃ tb vp vn vi, e = .returned (.pointer (some ⟨tb, 0, none⟩)) ∧ TreeAt w.heap.size tb k vp vn vi w' ∧ Up w w'

set_option maxRecDepth 100000 in
set_option maxHeartbeats 8000000 in
theorem newTree_any (k : KnD) (v : Value) (lo : Nat) (w : World) (hk : k.Ok) (hr : RdP lo w v k.ps) :
    Calls Tryz.prog 113  #[kV k v] w (NewTree k w) := by
  obtain ⟨iN, hiN, hzN0, hzN1, hzN2⟩ := info_parts infoNode
  have hkt := hk.tr
  have cK := fun w => clearI_any k.set w hk.set
  obtain ⟨hb2, hb3, hb4⟩ := clr_le hk.set
  have ec : k.c = clr k.set := rfl
  have hpl := hk.len
  have hrt := fun (wq : World) (hu : Up w wq) => hr.up hu
  obtain ⟨a, cap, rfl, hc1, hc2, hc3, hsome⟩ := hr
  unfold maxLen at hc2
  simp only [kV]
  go_enter Tryz.func113, Tryz.ntmps113
  go_wp2_with (first | (go_at_call 52; (with_reducible refine (cK _).mono ?_); rintro e w1 ⟨rfl, U1⟩; have B1 := bcell U1; have Z1 := U1.size; (try simp at Z1); (try rw [Nat.add_one_le_iff] at Z1)) | fail)
  have hkn : KnAt w.heap.size k (.slice a k.ps.length cap) w1 := box_up U1 (box_up ((Up.refl _).alloc _) (MapKept.heap_alloc w _).1)
  have hbx : TrBox (w.heap.size + 1) k (.slice none 0 0) (.slice none 0 0) (.slice none 0 0) w1 := box_up U1 (alloc2 w _ _)
  have hU1 : Up w w1 := by (repeat (first | with_reducible exact Up.refl _ | with_reducible assumption | with_reducible refine Up.set ?_ (by first | exact Nat.le_refl _ | (simp only []; omega) | (simp; omega)) _ | with_reducible refine Up.alloc ?_ _ | with_reducible refine Up.drew ?_ | refine Up.trans ?_ (by with_reducible assumption)))
  clear U1 B1
  go_loopw [17] (fun i wr => RelNt1 k (.slice a k.ps.length cap) w i wr) (fun i _ => clr k.set - (intOf i).toNat)
  case atStart => exact ⟨0, .slice none 0 0, rfl, Nat.zero_le _, hkn, hbx, World.ownsRow_nil _ _ _ _, hU1⟩
  case round =>
    clear hkn hbx hU1
    obtain ⟨b, vn, rfl, hN⟩ := hrel
    obtain ⟨hble, hkn, hbx, hrow, hup⟩ := hN
    obtain ⟨an, cn, rfl⟩ := ownsRow_shape hrow
    have hfr := box_free hbx
    have hfk := box_free hkn
    have htb := (Array.getElem?_eq_some_iff.1 hbx).1
    obtain ⟨k0, q0, q1, q2, q3, q4, q5⟩ := hkn.cells
    have hne1 : ¬ w.heap.size = w.heap.size + 1 := by omega
    have hsz := hup.size
    by_cases hlt : b < clr k.set
    · have hbm : (b : Int) % 256 = b := by omega
      have hb255 : (b : Int) ≤ 255 := by omega
      obtain ⟨c0, c1, c2, c3, c4, c5, c6, c7⟩ := TrBox.cells hbx
      have hneB : some (w.heap.size + 1) ≠ Value.ownBlock (.slice an b cn) := box_ne hbx hrow (by decide)
      have hneK : some w.heap.size ≠ Value.ownBlock (.slice an b cn) := box_ne hkn hrow (by decide)
      have HN := Lib.hid (And.intro hbx (And.intro hkn (And.intro hrow (And.intro hneB hneK))))
      clear hbx hkn hneB hneK
      go_wp2_with (at_builtin; refine wpList_append_own _ rfl _ _ 86 rfl w.heap.size 141 iN (.agg #[.int .i64 0, .int .i64 0, .int .i64 0, .int .u8 0, .int .u8 0, .int .i64 0]) 6 40 Tryz.underlying86 hiN hzN0 hzN1 hzN2 rfl (by decide) _ _ _ rfl (hrow.alloc _) ⟨wr.heap.size, 0, none⟩ 1 1 (litC1 b) rfl rfl (new_cells (litC1 b) _ rfl) (litC_one b) (by unfold maxLen; omega) (by omega) (by simp; omega) ?_; rintro v2 w2 hown2 hgr2 -; obtain ⟨a2, cc2, rfl⟩ := ownsRow_shape hown2; obtain ⟨c0, c1, c2, c3, c4, c5, c6, c7⟩ := TrBox.cells (gbox hgr2 (box_up ((Up.refl _).alloc _) HN.out.1) HN.out.2.2.2.1); have hfr := box_free (gbox hgr2 (box_up ((Up.refl _).alloc _) HN.out.1) HN.out.2.2.2.1); have HO := Lib.hid (And.intro hown2 hgr2); clear hown2 hgr2)
      go_roundw
      case rel =>
        obtain ⟨hown2, hgr2⟩ := HO.out
        have hb2' : TrBox (w.heap.size + 1) k (.slice none 0 0) (.slice an b cn) (.slice none 0 0) w2 := gbox hgr2 (box_up ((Up.refl _).alloc _) HN.out.1) HN.out.2.2.2.1
        refine ⟨b + 1, .slice a2 (b + 1) cc2, by go_num, by omega, ?_, box_set hb2' 6 _, ?_, ?_⟩
        · exact box_oth (gbox hgr2 (box_up ((Up.refl _).alloc _) HN.out.2.1) HN.out.2.2.2.2) (p := ⟨w.heap.size + 1, 6, none⟩) hne1 _
        · rw [litC_succ]; exact ownsRow_setb hown2 (box_ne hb2' hown2 (by decide)) 6 _
        · exact ((hup.alloc _).grown hgr2 (fun x hx => (HN.out.2.2.1.lt x hx).1)).set (p := ⟨w.heap.size + 1, 6, none⟩) (Nat.le_succ _) _
      case measure => simp [intOf]; omega
    · have e : b = clr k.set := by omega
      have hrow' : wr.ownsRow w.heap.size 141 6 (.slice an b cn) (k.upto 0).tree.ns.length (cellsN (k.upto 0).tree.ns) := by
        have e2 : (k.upto 0).tree = ⟨litsN (clr k.set), []⟩ := rfl
        rw [e2]
        show wr.ownsRow _ _ _ _ (litsN (clr k.set)).length _
        rw [litsN_length, ← litC_all, ← e]
        exact hrow
      have hT0 : TreeAt w.heap.size (w.heap.size + 1) (k.upto 0) (.slice none 0 0) (.slice an b cn) (.slice none 0 0) wr := ⟨hbx, Nat.le_succ _, World.ownsRow_nil _ _ _ _, hrow', World.ownsRow_nil _ _ _ _⟩
      have HK := Lib.hid (And.intro hkn (And.intro hT0 hup))
      clear e hrow hrow' hbx hT0 hkn
      go_wp2
      go_loopw [39] (fun i wr => RelNt2 k (.slice a k.ps.length cap) w i wr) (fun i _ => k.ps.length - (intOf i).toNat)
      case atStart => exact ⟨0, _, _, _, rfl, Nat.zero_le _, HK.out.1, HK.out.2.1, HK.out.2.2⟩
      case round =>
        clear HK hup hfr hfk htb k0 q0 q1 q2 q3 q4 q5 hne1 hsz
        obtain ⟨j, vp, vn, vi, rfl, hN⟩ := hrel
        obtain ⟨hjl, hkn, hT, hup⟩ := hN
        by_cases hlt : j < k.ps.length
        · obtain ⟨hpo, hpb0, hpb1⟩ := hk.ps.get hlt
          obtain ⟨bb, off, rfl, hlo, hbl, hcells⟩ := hsome (by omega)
          obtain ⟨q0, q1⟩ := hcells j k.ps[j] (List.getElem?_eq_getElem hlt)
          have r0 := (hup.cell (p := ⟨bb, off + j * 2, none⟩) hbl).trans q0
          have r1 := (hup.cell (p := ⟨bb, off + j * 2 + 1, none⟩) hbl).trans q1
          have hut : (k.upto j).ps.length = j := by unfold KnD.upto; simp only [List.length_take]; omega
          have cL := fun wq hT => learnT_any w.heap.size (w.heap.size + 1) (k.upto j) vp vn vi k.ps[j] wq hT (KnD.upto_tr hkt j) (by rw [hut]; exact hpo) hpb0 hpb1 (by unfold KnD.next; rw [hut]; show k.c + 2 + j ≤ lastC k.set; omega)
          have hadd := KnD.upto_add hlt
          have HT := Lib.hid (And.intro hkn (And.intro hT hup))
          have HADD := Lib.hid hadd
          clear hcells q0 q1 hkn hT hut hadd
          have hbl2 := Nat.lt_of_lt_of_le hbl hup.size
          go_wp2_with fail
          with_reducible refine (cL _ (HT.out.2.1.up (Up.alloc (Up.refl _) _))).mono ?_
          rintro e w2 ⟨⟨vv, rfl⟩, hP⟩
          go_wp2
          go_roundw
          case rel =>
            obtain ⟨hkn, hT, hup⟩ := HT.out
            obtain ⟨vp', vn', vi', hT', hfr', hO'⟩ := hP
            rw [HADD.out] at hT'
            have hTa := hT.up (Up.alloc (Up.refl wr) (.cells #[.int .i64 k.ps[j].pre, .int .i64 k.ps[j].byt] 149))
            have hkna := box_up (Up.alloc (Up.refl wr) (.cells #[.int .i64 k.ps[j].pre, .int .i64 k.ps[j].byt] 149)) hkn
            exact ⟨j + 1, vp', vn', vi', by go_num, by omega, hfr'.box hkna (hTa.not_own hkna (by decide) (by decide) (by decide) (by decide)), hT', Fr.upto (hup.alloc _) hfr' (fun b hb => (hTa.own_lo b hb).1)⟩
          case measure => simp [intOf]; omega
        · have e : j = k.ps.length := by omega
          rw [e, KnD.upto_all] at hT
          have HT := Lib.hid (And.intro hT hup)
          clear hkn hT
          go_wp2
          go_ret
          exact ⟨_, vp, vn, vi, rfl, HT.out.1, HT.out.2⟩

end Go.Proofs.YtiiahjnfbhcgmaaGreatDoor
