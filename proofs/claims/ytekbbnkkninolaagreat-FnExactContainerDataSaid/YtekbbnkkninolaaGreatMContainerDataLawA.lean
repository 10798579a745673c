/- Texts joined into one: the walks and laws that the last text leans on. Conditions: as each says. -/
import Derived.Test.YtekbbnkkninolaaGreatWe
import Derived.Test.YtekbbnkkninolaaGreatWf
import Derived.Test.YtekbbnkkninolaaGreatBlkOf
import Derived.Test.YtekbbnkkninolaaGreatBa
import Derived.Shelf.Strings.Builder1
import Derived.Test.YtekbbnkkninolaaGreatShelf
import Derived.Test.YtekbbnkkninolaaGreatUn2
import Derived.Test.YtekbbnkkninolaaGreatRc3
import Derived.Test.YtekbbnkkninolaaGreatSets
import Derived.Lib.SmallJoins
import Derived.Deep.SlicePairs

/- Walks of the program's CompressWith, SealStream, makeBlock, BlockOf, and of the reference's SealStream. Conditions: the strings are no longer than 2^30 bytes. -/
namespace Go.Proofs.YtekbbnkkninolaaGreat
set_option linter.unusedVariables false
set_option linter.unusedSimpArgs false
open Go Go.RowKit

/-- The block of data that has been compressed, or not. -/
def mkB (o : Option (List UInt8)) (d : ByteArray) : BlkD := match o with
  | some c => if c.length < d.size then ⟨0, false, d.size, bs c⟩ else ⟨0, true, d.size, d⟩
  | none => ⟨0, true, d.size, d⟩

end Go.Proofs.YtekbbnkkninolaaGreat

/- Walk of the program's makeBlocks. Conditions: what is known is valid and can be read; the data is no longer than 2000 bytes. -/
namespace Go.Proofs.YtekbbnkkninolaaGreat
set_option linter.unusedVariables false
set_option linter.unusedSimpArgs false
open Go Go.RowKit

/-- The blocks of data, all with the number 0. -/
def blksN (k : KnD) (size : Nat) : Nat → List UInt8 → List BlkD
  | 0, _ => []
  | n + 1, d => if d = [] then [] else mkB (compO k (d.take size)) (bs (d.take size)) :: blksN k size n (d.drop size)
abbrev ownB (w : World) (base : Nat) (v : Value) (l : List BlkD) : Prop := w.ownsRow base 61 4 v l.length (cellsB l)
structure MbAt (T : List BlkD) (k : KnD) (v : Value) (size : Nat) (L : List UInt8) (w : World) (f m : Nat) (acc : List BlkD) (vb : Value) (wr : World) : Prop where
  tot : acc ++ blksN k size m (L.drop f) = T
  len : (L.drop f).length ≤ m
  fl : f ≤ 4096
  al : acc.length ≤ f
  kn : KnAt w.heap.size k v wr
  own : ownB wr (w.heap.size + 1) vb acc
  up : Up w wr
end Go.Proofs.YtekbbnkkninolaaGreat

/- strings.Builder: copyCheck and WriteString at a builder that the call has made itself. Conditions: the bytes are fewer than 2^47. -/
namespace Go.Proofs.YtekbbnkkninolaaGreat
set_option linter.unusedVariables false
set_option linter.unusedSimpArgs false
open Go Go.RowKit

theorem infoByteB : (Tryz.prog.info? 5).map (fun i => (i.zero, i.size, i.bytes)) = some (some (.int .u8 0), 1, 1) := by kernel_rfl
theorem sizeSb : (Tryz.prog.info? 137).map (·.size) = some 2 := by kernel_rfl
theorem liesSb : liesAt Tryz.prog Tryz.prog.depth 137 (2 / Tryz.prog.cellsOf 137) 0 137 1 = true := by kernel_rfl
abbrev SbAt (B b : Nat) (p : Value) (l : List Value) (w : World) : Prop := Lib.BuilderAt 137 5 B b p l w
abbrev IsSb (B b : Nat) (l : List Value) (w : World) : Prop := Lib.IsBuilder 137 5 B b l w

set_option maxHeartbeats 1000000 in
set_option maxRecDepth 100000 in
theorem sbCheck_used (b : Nat) (w : World) (h0 : w.cell? ⟨b, 0, none⟩ = some (.pointer (some ⟨b, 0, none⟩))) :
    Calls Tryz.prog 151 #[.pointer (some ⟨b, 0, none⟩)] w fun e w' => e = .returned (.tuple #[]) ∧ w' = w := by
  obtain ⟨j, hj, _⟩ := Option.map_eq_some_iff.1 sizeSb
  go_enter Tryz.func151, Tryz.ntmps151
  go_wp2
  rw [Lib.run_neq_ptr_same w _ Tryz.underlying135 hj]
  go_wp2
  go_end0
  exact ⟨rfl, rfl⟩

set_option maxHeartbeats 1000000 in
set_option maxRecDepth 100000 in
theorem sbCheck_fresh (b : Nat) (w : World) (h0 : w.cell? ⟨b, 0, none⟩ = some (.pointer none)) (hsh : w.shape? b = some (137, 2)) (hfz : w.frozen? ⟨b, 0, none⟩ = false) :
    Calls Tryz.prog 151 #[.pointer (some ⟨b, 0, none⟩)] w fun e w' => e = .returned (.tuple #[]) ∧ w' = w.setCell ⟨b, 0, none⟩ (.pointer (some ⟨b, 0, none⟩)) := by
  obtain ⟨j, hj, hjs⟩ := Option.map_eq_some_iff.1 sizeSb
  go_enter Tryz.func151, Tryz.ntmps151
  go_wp2
  rw [Lib.run_to_unsafe w ⟨b, 0, none⟩ Tryz.underlying135 Tryz.underlying189 hj (by rw [hjs]; decide) hsh (Nat.zero_lt_succ 1)]
  simp only [Result.andThen]
  rw [Oper.upon_value]
  go_wp2
  rw [run_callFunc_extern Tryz.func179 (by kernel_rfl) (by kernel_rfl) (by kernel_rfl) (e := Extern.AbiNoEscape.same) (by kernel_rfl)]
  rw [Lib.run_noEscape]
  simp only [Result.andThen]
  rw [Oper.upon_value]
  go_wp2
  rw [Lib.run_from_unsafe w ⟨b, 0, none⟩ Tryz.underlying189 Tryz.underlying135 hj hsh liesSb]
  simp only [Result.andThen]
  rw [Oper.upon_value]
  go_wp2
  go_end0
  exact ⟨rfl, rfl⟩

theorem sbCheck_any (B b : Nat) (l : List Value) (w : World) (h : IsSb B b l w) :
    Calls Tryz.prog 151 #[.pointer (some ⟨b, 0, none⟩)] w fun e w' => e = .returned (.tuple #[]) ∧ (SbAt B b (.pointer (some ⟨b, 0, none⟩)) l w' ∧ Below B w w') := by
  rcases h with h | h
  · refine (sbCheck_fresh b w h.cell0 h.shape h.frozen0).mono ?_
    rintro e w' ⟨rfl, rfl⟩
    exact ⟨rfl, h.used _, (Below.refl B w).setCell (p := ⟨b, 0, none⟩) h.1 _⟩
  · refine (sbCheck_used b w h.cell0).mono ?_
    rintro e w' ⟨rfl, rfl⟩
    exact ⟨rfl, h, Below.refl B _⟩

set_option maxHeartbeats 2000000 in
set_option maxRecDepth 100000 in
theorem sbWrite_any (B b : Nat) (l : List Value) (s : ByteArray) (w : World) (h : IsSb B b l w) (hlen : l.length + s.size ≤ 140737488355328) (hBw : B ≤ w.heap.size) :
    Calls Tryz.prog 125 #[.pointer (some ⟨b, 0, none⟩), .string s] w fun e w' => e = .returned (.tuple #[.int .i64 s.size, .nilIface]) ∧ (SbAt B b (.pointer (some ⟨b, 0, none⟩)) (l ++ Lib.strCells s) w' ∧ Below B w w') := by
  obtain ⟨i0, hi, hz0, hz1, hz2⟩ := info_parts infoByteB
  have cK := fun wx hx => sbCheck_any B b l wx hx
  go_enter Tryz.func125, Tryz.ntmps125
  go_wp2_with fail
  (with_reducible refine (cK _ h).mono ?_)
  rintro e w1 ⟨rfl, h1, hb1⟩
  obtain ⟨hB, v, hbk, hown, hne⟩ := h1
  have c0 : w1.cell? ⟨b, 0, none⟩ = some (.pointer (some ⟨b, 0, none⟩)) := by rw [Lib.cell_of_heap hbk]; rfl
  have c1 : w1.cell? ⟨b, 1, none⟩ = some v := by rw [Lib.cell_of_heap hbk]; rfl
  go_wp2_with (at_builtin; refine Lib.wpList_append_own_string _ rfl _ _ 38 9 rfl B 5 i0 Tryz.underlying38 Tryz.underlying9 hi hz0 hz1 hz2 _ _ _ rfl hown s rfl ?c3 ?c4 ?c5 ?_)
  case c3 => unfold maxLen; omega
  case c4 => omega
  case c5 => have := hb1.size; omega
  intro v' w2 hown' hgrow _
  have hlt : b < w1.heap.size := by
    rcases Nat.lt_or_ge b w1.heap.size with h' | h'
    · exact h'
    · simp [Array.getElem?_eq_none h'] at hbk
  have hb2 : w2.heap[b]? = some (.cells #[.pointer (some ⟨b, 0, none⟩), v] 137 (0, 0)) := by
    rw [hgrow.block b hlt (fun e => hne e.symm)]
    exact hbk
  have d0 : w2.cell? ⟨b, 0, none⟩ = some (.pointer (some ⟨b, 0, none⟩)) := by rw [Lib.cell_of_heap hb2]; rfl
  have d1 : w2.cell? ⟨b, 1, none⟩ = some v := by rw [Lib.cell_of_heap hb2]; rfl
  have f1 : w2.frozen? ⟨b, 1, none⟩ = false := Lib.frozen_of_heap hb2 1
  obtain ⟨ao, n', cap, rfl⟩ : ∃ ao n' cap, v' = .slice ao n' cap := by
    rcases hown'.2 with ⟨hv, _⟩ | ⟨g, cap, cur, hv, _⟩
    · exact ⟨_, _, _, hv⟩
    · exact ⟨_, _, _, hv⟩
  go_wp2
  go_ret2
  refine ⟨rfl, ?_, ?_⟩
  · exact Lib.BuilderAt.put (T := 137) (e := 5) hB hb2 (bs' := l ++ Lib.strCells s) (by simpa [Lib.strCells_length] using hown') (by decide)
  · exact (hb1.grown hgrow (by have := hb1.size; omega) (fun k hk => (hown.lt k hk).1)).setCell (p := ⟨b, 1, none⟩) hB _

end Go.Proofs.YtekbbnkkninolaaGreat

/- Walks of the program's makeContainer and MakeContainer. Conditions: as each says. -/
namespace Go.Proofs.YtekbbnkkninolaaGreat
set_option linter.unusedVariables false
set_option linter.unusedSimpArgs false
open Go Go.RowKit

theorem IsSb.up {B b : Nat} {l : List Value} {w w' : World} (h : IsSb B b l w) (hu : Up w w') : IsSb B b l w' := by
  have hs : ∀ p, SbAt B b p l w → SbAt B b p l w' := fun p ⟨h1, v, h2, h3, h4⟩ => ⟨h1, v, box_up hu h2, ownsRow_up h3 hu, h4⟩
  exact h.imp (hs _) (hs _)
theorem IsSb.lt {B b : Nat} {l : List Value} {w : World} (h : IsSb B b l w) : b < w.heap.size := h.elim (fun h => h.lt) (fun h => h.lt)
theorem strCells_bs9 (l : List UInt8) : Lib.strCells (bs l) = Lib.byteCells l := by simp [Lib.strCells, Lib.byteCells, bs_data]
theorem byteCells_app (a b : List UInt8) : Lib.byteCells a ++ Lib.byteCells b = Lib.byteCells (a ++ b) := by simp [Lib.byteCells]
theorem isSb_new (w : World) : IsSb w.heap.size w.heap.size (Lib.byteCells []) (w.alloc (.cells #[.pointer none, .slice none 0 0] 137)) :=
  .inl ⟨Nat.le_refl _, _, (MapKept.heap_alloc w _).1, World.ownsRow_nil _ _ _ _, by simp [Value.ownBlock]⟩
/-- What String gives. -/
theorem sbString_any (B b : Nat) (l : List UInt8) (w : World) (h : IsSb B b (Lib.byteCells l) w) (hB : B ≤ w.heap.size) :
    Calls Tryz.prog 126 #[.pointer (some ⟨b, 0, none⟩)] w (fun e w' => e = .returned (.string (bs l)) ∧ Below B w w') :=
  (Tryz.Builder_String_any_f B b l w (Lib.IsBuilderF.of h) hB).mono fun e w' ⟨he, h1, h2⟩ => ⟨he, h2⟩

/-- The bytes of blocks with new numbers. -/
def numbT (i : Nat) : List BlkD → List UInt8
  | [] => []
  | b :: l => (textB i b.raw b.size b.body).data.toList ++ numbT (i + 1) l
/-- Blocks that may stand in a container. -/
structure McOk (l : List BlkD) : Prop where
  acc : accOk l
  sum : sizeSum l ≤ 2000
  form : ∀ (i : Nat) (h : i < l.length), formB (i : Nat) (l[i]).raw (l[i]).size (l[i]).body = true
/-- A row of blocks that can be read. -/
def RdB (w : World) (v : Value) (l : List BlkD) : Prop := ∃ a cap, v = .slice a l.length cap ∧ l.length ≤ cap ∧ cap ≤ maxLen ∧ (0 < l.length → ∃ g, a = some ⟨g, 0, none⟩ ∧ g < w.heap.size ∧ ∀ i (h : i < l.length), w.cell? ⟨g, i * 4, none⟩ = some (.int .i64 (l[i]).num) ∧ w.cell? ⟨g, i * 4 + 1, none⟩ = some (.bool (l[i]).raw) ∧ w.cell? ⟨g, i * 4 + 2, none⟩ = some (.int .i64 (l[i]).size) ∧ w.cell? ⟨g, i * 4 + 3, none⟩ = some (.string (l[i]).body))
theorem RdB.low {w w' : World} {v : Value} {l : List BlkD} (h : RdB w v l) (hb : Below w.heap.size w w') : RdB w' v l := by
  obtain ⟨a, cap, h1, h2, h3, h4⟩ := h
  refine ⟨a, cap, h1, h2, h3, fun hp => ?_⟩
  obtain ⟨g, e1, e2, e3⟩ := h4 hp
  refine ⟨g, e1, Nat.lt_of_lt_of_le e2 hb.size, fun i hi => ?_⟩
  obtain ⟨c0, c1, c2, c3⟩ := e3 i hi
  exact ⟨(hb.cell (p := ⟨g, _, none⟩) e2).trans c0, (hb.cell (p := ⟨g, _, none⟩) e2).trans c1, (hb.cell (p := ⟨g, _, none⟩) e2).trans c2, (hb.cell (p := ⟨g, _, none⟩) e2).trans c3⟩
theorem RdB.of_own {w : World} {base : Nat} {v : Value} {l : List BlkD} (h : ownB w base v l) : RdB w v l := by
  obtain ⟨a, cap, rfl, hm, hsome⟩ := ownsRow_any h
  by_cases hp : 0 < l.length
  · obtain ⟨g, rfl, hnc, hcm, hbg, hg, hcells⟩ := hsome hp
    refine ⟨_, cap, rfl, hnc, hcm, fun _ => ⟨g, rfl, hg, fun i hi => ?_⟩⟩
    exact blk_cells (w := w) hcells hi
  · have hcp := ownsRow_cap h
    exact ⟨_, cap, rfl, hcp.1, by unfold maxLen; exact hcp.2, fun h => absurd h hp⟩

structure McAt (T : List UInt8) (l : List BlkD) (w1 : World) (j : Nat) (acc : List UInt8) (wr : World) : Prop where
  le : j ≤ l.length
  tot : acc ++ numbT j (l.drop j) = T
  al : acc.length ≤ 74 * j
  sb : IsSb w1.heap.size w1.heap.size (Lib.byteCells acc) wr
  up : Up w1 wr
end Go.Proofs.YtekbbnkkninolaaGreat

/- Walks of the reference's l5All, ContainerData and ReadRange. Conditions: the strings are no longer than 2^30 bytes. -/
namespace Go.Proofs.YtekbbnkkninolaaGreat
set_option linter.unusedVariables false
set_option linter.unusedSimpArgs false
open Go Go.RowKit

/-- The data of blocks, one behind the other. -/
def allF (f : BlkD → Option (List UInt8)) : List BlkD → Option (List UInt8)
  | [] => some []
  | b :: l => match f b with
    | none => none
    | some x => (allF f l).map (x ++ ·)
def addO (acc : List UInt8) (o : Option (List UInt8)) : Option (List UInt8) := o.map (acc ++ ·)
theorem dataO_bd {s : SetD} {dict : List UInt8} {b : BlkD} {x : List UInt8} (h : dataO s dict b = some x) (h1 : b.size ≤ 64) (h2 : b.body.size ≤ 64) : x.length ≤ 64 := by
  unfold dataO at h
  split at h
  · cases h
    have := ba_len b.body; omega
  · split at h
    · next h3 =>
      cases h
      have := h3.2.2; omega
    · cases h
theorem addO_step {f : BlkD → Option (List UInt8)} {l : List BlkD} {j : Nat} (hlt : j < l.length) {acc x : List UInt8} (h : f l[j] = some x) : addO acc (allF f (l.drop j)) = addO (acc ++ x) (allF f (l.drop (j + 1))) := by
  rw [List.drop_eq_getElem_cons hlt, allF, h]
  unfold addO
  cases allF f (l.drop (j + 1)) <;> simp
theorem addO_fail {f : BlkD → Option (List UInt8)} {l : List BlkD} {j : Nat} (hlt : j < l.length) {acc : List UInt8} (h : f l[j] = none) : addO acc (allF f (l.drop j)) = none := by
  rw [List.drop_eq_getElem_cons hlt, allF, h]; rfl
theorem addO_end {f : BlkD → Option (List UInt8)} {l : List BlkD} {j : Nat} (h : l.length ≤ j) (acc : List UInt8) : addO acc (allF f (l.drop j)) = some acc := by
  rw [List.drop_of_length_le h]; simp [allF, addO]
theorem addO_nil (o : Option (List UInt8)) : addO [] o = o := by cases o <;> simp [addO]
structure DaAt (T : Option (List UInt8)) (s : SetD) (dict : List UInt8) (l : List BlkD) (w : World) (j : Nat) (acc : List UInt8) (wr : World) : Prop where
  le : j ≤ l.length
  tot : addO acc (allF (dataO s dict) (l.drop j)) = T
  al : acc.length ≤ 64 * j
  set : SetAt w.heap.size s.ord s.lit s.most wr
  up : Up w wr
def RelDaC (T : Option (List UInt8)) (s : SetD) (dict : List UInt8) (l : List BlkD) (w : World) (o i : Value) (wr : World) : Prop := ∃ (j : Nat) (acc : List UInt8), o = .string (bs acc) ∧ i = .int .i64 j ∧ DaAt T s dict l w j acc wr

set_option maxRecDepth 100000 in
set_option maxHeartbeats 8000000 in
theorem l5All_any (s : SetD) (dict : ByteArray) (l : List BlkD) (v : Value) (w : World) (hi : dict.size ≤ 1073741824) (hr : RdB w v l) (hok : accOk l) :
    Calls Tryz.prog 63  #[setV s, .string dict, v] w (Same (optS (allF (dataO s dict.data.toList) l)) w) := by
  have cD := fun b wx hb => l5Data_any s dict b wx hi hb
  have HRD := Lib.hid hr
  have HOK := Lib.hid hok
  have hl40 := hok.1
  obtain ⟨T, HT⟩ : ∃ T, Hid (allF (dataO s dict.data.toList) l = T) := ⟨_, rfl⟩
  rw [HT.out]
  obtain ⟨a, cap, rfl, hnc, hcm, -⟩ := hr
  unfold maxLen at hcm
  clear hok
  simp only [setV] at *
  go_enter Tryz.func63, Tryz.ntmps63
  go_wp2
  go_loopw [8, 9] (fun o i wr => RelDaC T s dict.data.toList l w o i wr) (fun _ i _ => l.length - (intOf i).toNat)
  case atStart => exact ⟨0, [], rfl, rfl, ⟨Nat.zero_le _, by rw [List.drop_zero, addO_nil]; exact HT.out, by simp, (MapKept.heap_alloc w _).1, by (repeat (first | with_reducible exact Up.refl _ | with_reducible assumption | with_reducible refine Up.set ?_ (by first | exact Nat.le_refl _ | (simp only []; omega) | (simp; omega)) _ | with_reducible refine Up.alloc ?_ _ | with_reducible refine Up.drew ?_ | refine Up.trans ?_ (by with_reducible assumption)))⟩⟩
  case round =>
    obtain ⟨j, acc, rfl, rfl, hM⟩ := hrel
    have HM := Lib.hid hM
    have hj := hM.le
    have hal := hM.al
    have hza := bs_size acc
    obtain ⟨hb0, s0, s1, s2⟩ := hM.set.cells
    clear hM
    by_cases hlt : j < l.length
    · obtain ⟨a9, cap9, e9, -, -, hc9⟩ := HRD.out.low HM.out.up
      cases e9
      obtain ⟨g, rfl, hg, hcell⟩ := hc9 (by omega)
      obtain ⟨c0, c1, c2, c3⟩ := hcell j hlt
      obtain ⟨hb1, hb2, hb3⟩ := HOK.out.2 _ (List.getElem_mem hlt)
      have HST := fun acc x h => @addO_step (dataO s dict.data.toList) l j hlt acc x h
      have HFA := fun acc h => @addO_fail (dataO s dict.data.toList) l j hlt acc h
      have HBD := fun x (h9 : dataO s dict.data.toList (l[j]'hlt) = some x) => dataO_bd h9 hb2 hb3
      have cD2 := fun wx => cD (l[j]) wx (by omega)
      clear hcell cD
      cases hdo : dataO s dict.data.toList l[j] with
      | none =>
        rw [hdo] at cD2
        have HTN : Hid (T = none) := HM.out.tot.symm.trans (HFA _ hdo)
        clear HST HFA HBD
        clear hdo
        generalize l[j] = bj at *
        obtain ⟨bn, br, bz, bb⟩ := bj
        unfold optS at cD2
        simp only [blkV, Option.getD_none, Option.isSome_none] at c0 c1 c2 c3 cD2
        go_wp2
        refine wp_region_up 12 (by kernel_rfl) (by kernel_rfl) ?_
        simp only [List.take, List.drop]
        repeat (refine wpUp_step (fun K hK => ?_); go_simp; (try simp only [↓IntWalk.iteOmega]); first
          | (refine hK _ _ ?_; clear hK K)
          | (apply stepU_c
             · intro wq hwq; (have hbq := bcell hwq; (repeat (first | refine fills_no (by rfl) ?_ | refine fills_yes (by rfl) (fun vq hvq => ?_))); simp only [List.filter_nil, fills]; unfold upAt; (try ((have e0 := (hwq.cell (p := ⟨g, j * 4, none⟩) hg).trans c0; have e1 := (hwq.cell (p := ⟨g, j * 4 + 1, none⟩) hg).trans c1; have e2 := (hwq.cell (p := ⟨g, j * 4 + 2, none⟩) hg).trans c2; have e3 := (hwq.cell (p := ⟨g, j * 4 + 3, none⟩) hg).trans c3; obtain ⟨hbz, s0, s1, s2⟩ := SetAt.cells (box_up hwq HM.out.set)))); go_simp; (try go_bits); (try simp only [↓IntWalk.iteOmega]); (try (rw [dif_pos (by omega)]; go_simp; try go_bits)); first | exact upOut_value | (apply upOut_call; (go_at_call 123; with_reducible exact cD2 _)) | (apply upOut_eq; (go_at_call 123; with_reducible exact cD2 _)))
             go_simp; refine hK _ _ ?_; clear hK K))
        refine wpUp_nil (fun wq hwq => ?_)
        simp only [fills]
        go_wp2
        go_ret2
        refine ⟨by rw [HTN.out]; rfl, ?_⟩
        exact HM.out.up.trans (by (repeat (first | with_reducible exact Up.refl _ | with_reducible assumption | with_reducible refine Up.set ?_ (by first | exact Nat.le_refl _ | (simp only []; omega) | (simp; omega)) _ | with_reducible refine Up.alloc ?_ _ | with_reducible refine Up.drew ?_ | refine Up.trans ?_ (by with_reducible assumption))))
      | some x =>
        rw [hdo] at cD2
        have hxl := HBD x hdo
        have hzx := bs_size x
        have HTN : Hid (addO (acc ++ x) (allF (dataO s dict.data.toList) (l.drop (j + 1))) = T) := (HST _ _ hdo).symm.trans HM.out.tot
        clear HST HFA HBD
        clear hdo
        generalize l[j] = bj at *
        obtain ⟨bn, br, bz, bb⟩ := bj
        unfold optS at cD2
        simp only [blkV, Option.getD_some, Option.isSome_some] at c0 c1 c2 c3 cD2
        go_wp2
        refine wp_region_up 12 (by kernel_rfl) (by kernel_rfl) ?_
        simp only [List.take, List.drop]
        repeat (refine wpUp_step (fun K hK => ?_); go_simp; (try simp only [↓IntWalk.iteOmega]); first
          | (refine hK _ _ ?_; clear hK K)
          | (apply stepU_c
             · intro wq hwq; (have hbq := bcell hwq; (repeat (first | refine fills_no (by rfl) ?_ | refine fills_yes (by rfl) (fun vq hvq => ?_))); simp only [List.filter_nil, fills]; unfold upAt; (try ((have e0 := (hwq.cell (p := ⟨g, j * 4, none⟩) hg).trans c0; have e1 := (hwq.cell (p := ⟨g, j * 4 + 1, none⟩) hg).trans c1; have e2 := (hwq.cell (p := ⟨g, j * 4 + 2, none⟩) hg).trans c2; have e3 := (hwq.cell (p := ⟨g, j * 4 + 3, none⟩) hg).trans c3; obtain ⟨hbz, s0, s1, s2⟩ := SetAt.cells (box_up hwq HM.out.set)))); go_simp; (try go_bits); (try simp only [↓IntWalk.iteOmega]); (try (rw [dif_pos (by omega)]; go_simp; try go_bits)); first | exact upOut_value | (apply upOut_call; (go_at_call 123; with_reducible exact cD2 _)) | (apply upOut_eq; (go_at_call 123; with_reducible exact cD2 _)))
             go_simp; refine hK _ _ ?_; clear hK K))
        refine wpUp_nil (fun wq hwq => ?_)
        simp only [fills]
        go_wp2
        go_roundw
        case rel => exact ⟨j + 1, acc ++ x, congrArg Value.string (bs_app _ _), by go_num, ⟨by omega, HTN.out, by rw [List.length_append]; omega, box_up (by (repeat (first | with_reducible exact Up.refl _ | with_reducible assumption | with_reducible refine Up.set ?_ (by first | exact Nat.le_refl _ | (simp only []; omega) | (simp; omega)) _ | with_reducible refine Up.alloc ?_ _ | with_reducible refine Up.drew ?_ | refine Up.trans ?_ (by with_reducible assumption)))) HM.out.set, HM.out.up.trans (by (repeat (first | with_reducible exact Up.refl _ | with_reducible assumption | with_reducible refine Up.set ?_ (by first | exact Nat.le_refl _ | (simp only []; omega) | (simp; omega)) _ | with_reducible refine Up.alloc ?_ _ | with_reducible refine Up.drew ?_ | refine Up.trans ?_ (by with_reducible assumption))))⟩⟩
        case measure => simp [intOf]; omega
    · have HTN : Hid (T = some acc) := HM.out.tot.symm.trans (addO_end (by omega) _)
      go_wp2
      go_ret2
      exact ⟨by rw [HTN.out]; rfl, HM.out.up⟩

def conO (s : SetD) (dict : List UInt8) (st : ByteArray) : Option (List UInt8) := if fitsB s dict then (contBlocks st).bind (allF (dataO s dict)) else none
set_option maxRecDepth 100000 in
set_option maxHeartbeats 8000000 in
theorem conS_any (s : SetD) (dict st : ByteArray) (w : World) (hi : dict.size ≤ 1073741824) (hs : st.size ≤ 1073741824) :
    Calls Tryz.prog 17  #[setV s, .string dict, .string st] w (Same (optS (conO s dict.data.toList st)) w) := by
  have cR := fun wx => l5Ready_any s dict wx hi
  cases hc : contBlocks st with
  | none =>
    have HN : Hid (conO s dict.data.toList st = none) := by unfold Hid conO; rw [hc]; split <;> rfl
    have cB := fun wx => contS_none hc hs wx
    clear hc cR
    simp only [setV] at *
    go_enter Tryz.func17, Tryz.ntmps17
    go_wp2_with fail
    (with_reducible refine (cB _).mono ?_); rintro e w2 ⟨v, rfl, -, U2⟩
    go_wp2
    go_ret2
    refine ⟨by rw [HN.out]; rfl, ?_⟩
    (repeat (first | with_reducible exact Up.refl _ | with_reducible assumption | with_reducible refine Up.set ?_ (by first | exact Nat.le_refl _ | (simp only []; omega) | (simp; omega)) _ | with_reducible refine Up.alloc ?_ _ | with_reducible refine Up.drew ?_ | refine Up.trans ?_ (by with_reducible assumption)))
  | some l =>
    have cB := fun wx => contS_some hc hs wx
    have ho := contBlocks_ok hc
    cases hf : fitsB s dict.data.toList
    · have HN : Hid (conO s dict.data.toList st = none) := by unfold Hid conO; rw [hf]; rfl
      rw [hf] at cR
      clear hc hf ho
      simp only [setV] at *
      go_enter Tryz.func17, Tryz.ntmps17
      go_wp2_with fail
      (with_reducible refine (cB _).mono ?_); rintro e w2 ⟨v, rfl, ho2, U2⟩; have B2 := bcell U2; have Z2 := U2.size; simp at Z2; (try rw [Nat.add_one_le_iff] at Z2); obtain ⟨a2, c2, rfl⟩ := ownsRow_shape ho2; clear ho2
      go_wp2_with ((go_at_call 62; (with_reducible refine (cR _).mono ?_); rintro e w3 ⟨rfl, U3⟩; have B3 := bcell U3; have Z3 := U3.size; (try simp at Z3); (try rw [Nat.add_one_le_iff] at Z3)))
      go_ret2
      refine ⟨by rw [HN.out]; rfl, ?_⟩
      (repeat (first | with_reducible exact Up.refl _ | with_reducible assumption | with_reducible refine Up.set ?_ (by first | exact Nat.le_refl _ | (simp only []; omega) | (simp; omega)) _ | with_reducible refine Up.alloc ?_ _ | with_reducible refine Up.drew ?_ | refine Up.trans ?_ (by with_reducible assumption)))
    · have HN : Hid (conO s dict.data.toList st = allF (dataO s dict.data.toList) l) := by unfold Hid conO; rw [hf, hc]; rfl
      rw [hf] at cR
      have cA := fun v wx hr => l5All_any s dict l v wx hi hr ho
      rw [HN.out]
      clear hc hf ho HN
      unfold optS at cA
      unfold optS
      generalize (allF (dataO s dict.data.toList) l).isSome = ok at *
      generalize (allF (dataO s dict.data.toList) l).getD [] = ad at *
      simp only [setV] at *
      go_enter Tryz.func17, Tryz.ntmps17
      go_wp2_with fail
      (with_reducible refine (cB _).mono ?_); rintro e w2 ⟨v, rfl, ho2, U2⟩; have B2 := bcell U2; have Z2 := U2.size; simp at Z2; (try rw [Nat.add_one_le_iff] at Z2); have HR2 := Lib.hid (RdB.of_own ho2); obtain ⟨a2, c2, rfl⟩ := ownsRow_shape ho2; clear ho2
      go_wp2_with (first | (go_at_call 62; (with_reducible refine (cR _).mono ?_); rintro e w3 ⟨rfl, U3⟩; have B3 := bcell U3; have Z3 := U3.size; (try simp at Z3); (try rw [Nat.add_one_le_iff] at Z3)) | (go_at_call 63; (with_reducible refine (cA _ _ (HR2.out.low (by (repeat (first | with_reducible exact Up.refl _ | with_reducible assumption | with_reducible refine Up.set ?_ (by first | exact Nat.le_refl _ | (simp only []; omega) | (simp; omega)) _ | with_reducible refine Up.alloc ?_ _ | with_reducible refine Up.drew ?_ | refine Up.trans ?_ (by with_reducible assumption)))))).mono ?_); rintro e w4 ⟨rfl, U4⟩; have B4 := bcell U4; have Z4 := U4.size; (try simp at Z4); (try rw [Nat.add_one_le_iff] at Z4)))
      go_ret2
      refine ⟨rfl, ?_⟩
      (repeat (first | with_reducible exact Up.refl _ | with_reducible assumption | with_reducible refine Up.set ?_ (by first | exact Nat.le_refl _ | (simp only []; omega) | (simp; omega)) _ | with_reducible refine Up.alloc ?_ _ | with_reducible refine Up.drew ?_ | refine Up.trans ?_ (by with_reducible assumption)))

end Go.Proofs.YtekbbnkkninolaaGreat

/- Walks of the program's blockData and BlockData. Conditions: what is known is valid and can be read; strings are no longer than 2^30 bytes. -/
namespace Go.Proofs.YtekbbnkkninolaaGreat
set_option linter.unusedVariables false
set_option linter.unusedSimpArgs false
open Go Go.RowKit

/-- The data of a block, the words of the dictionary being known. -/
def datK (k : KnD) (b : BlkD) : Option (List UInt8) := if b.raw then some b.body.data.toList else
  if (decK k b.body.data.toList).fin = 0 ∧ (decK k b.body.data.toList).used = b.body.size ∧ ((decK k b.body.data.toList).data.length : Int) = b.size then some (decK k b.body.data.toList).data else none
theorem datK_eq {s : SetD} {dict : List UInt8} (h : fitsB s dict = true) (b : BlkD) : dataO s dict b = datK (learnK (startK s) dict) b := by
  unfold dataO datK decW
  rw [if_pos h]

set_option maxRecDepth 100000 in
set_option maxHeartbeats 8000000 in
theorem blockDataI_any (k : KnD) (v : Value) (lo : Nat) (b : BlkD) (w : World) (h : k.Ok) (hv : k.last = -1 → k.base = k.ps.length) (hr : RdP lo w v k.ps) (hs : b.body.size ≤ 1073741824) :
    Calls Tryz.prog 74  #[kV k v, blkV b] w (Same (optS (datK k b)) w) := by
  have cD := fun wx hr => decI_any k v lo b.body wx h hv hr hs
  have hrt := fun (wq : World) (hu : Up w wq) => hr.up hu
  unfold datK
  obtain ⟨num, raw, size, body⟩ := b
  simp only at hs cD ⊢
  cases raw
  · simp only [Bool.false_eq_true, if_false]
    obtain ⟨d1, d2, d3, d4⟩ := decK_bd h body.data.toList
    generalize decK k body.data.toList = R at *
    obtain ⟨dd, ff, uu⟩ := R
    simp only at d1 d2 d3 d4 ⊢
    unfold decV at cD
    simp only at cD
    have hbz := bs_size dd
    have hbl : uu ≤ body.size := by simpa using d4
    obtain ⟨a, cap, rfl, -, -, -, -⟩ := hr
    clear d4 h hv
    simp only [kV, blkV] at *
    by_cases h1 : ff = 0
    · by_cases h2 : uu = body.size
      · by_cases h3 : (dd.length : Int) = size
        · rw [if_pos ⟨h1, h2, h3⟩]
          unfold optS
          simp only [Option.getD_some, Option.isSome_some]
          subst h1; subst h2; subst h3
          go_enter Tryz.func74, Tryz.ntmps74
          go_wp2_with ((go_at_call 82; (with_reducible refine (cD _ (hrt _ (by (repeat (first | with_reducible exact Up.refl _ | with_reducible assumption | with_reducible refine Up.set ?_ (by first | exact Nat.le_refl _ | (simp only []; omega) | (simp; omega)) _ | with_reducible refine Up.alloc ?_ _ | with_reducible refine Up.drew ?_ | refine Up.trans ?_ (by with_reducible assumption)))))).mono ?_); rintro e w1 ⟨rfl, U1⟩; have B1 := bcell U1; have Z1 := U1.size; (try simp at Z1); (try rw [Nat.add_one_le_iff] at Z1)))
          go_ret2
          refine ⟨rfl, ?_⟩
          (repeat (first | with_reducible exact Up.refl _ | with_reducible assumption | with_reducible refine Up.set ?_ (by first | exact Nat.le_refl _ | (simp only []; omega) | (simp; omega)) _ | with_reducible refine Up.alloc ?_ _ | with_reducible refine Up.drew ?_ | refine Up.trans ?_ (by with_reducible assumption)))
        · rw [if_neg (fun h => h3 h.2.2)]
          unfold optS
          simp only [Option.getD_none, Option.isSome_none]
          have hne : ((dd.length : Int) == size) = false := by simpa using h3
          subst h1; subst h2
          clear h3
          go_enter Tryz.func74, Tryz.ntmps74
          go_wp2_with ((go_at_call 82; (with_reducible refine (cD _ (hrt _ (by (repeat (first | with_reducible exact Up.refl _ | with_reducible assumption | with_reducible refine Up.set ?_ (by first | exact Nat.le_refl _ | (simp only []; omega) | (simp; omega)) _ | with_reducible refine Up.alloc ?_ _ | with_reducible refine Up.drew ?_ | refine Up.trans ?_ (by with_reducible assumption)))))).mono ?_); rintro e w1 ⟨rfl, U1⟩; have B1 := bcell U1; have Z1 := U1.size; (try simp at Z1); (try rw [Nat.add_one_le_iff] at Z1)))
          go_ret2
          refine ⟨rfl, ?_⟩
          (repeat (first | with_reducible exact Up.refl _ | with_reducible assumption | with_reducible refine Up.set ?_ (by first | exact Nat.le_refl _ | (simp only []; omega) | (simp; omega)) _ | with_reducible refine Up.alloc ?_ _ | with_reducible refine Up.drew ?_ | refine Up.trans ?_ (by with_reducible assumption)))
      · rw [if_neg (fun h => h2 h.2.1)]
        unfold optS
        simp only [Option.getD_none, Option.isSome_none]
        have hne : ((uu : Int) == (body.size : Int)) = false := by simp; omega
        subst h1
        clear h2
        go_enter Tryz.func74, Tryz.ntmps74
        go_wp2_with ((go_at_call 82; (with_reducible refine (cD _ (hrt _ (by (repeat (first | with_reducible exact Up.refl _ | with_reducible assumption | with_reducible refine Up.set ?_ (by first | exact Nat.le_refl _ | (simp only []; omega) | (simp; omega)) _ | with_reducible refine Up.alloc ?_ _ | with_reducible refine Up.drew ?_ | refine Up.trans ?_ (by with_reducible assumption)))))).mono ?_); rintro e w1 ⟨rfl, U1⟩; have B1 := bcell U1; have Z1 := U1.size; (try simp at Z1); (try rw [Nat.add_one_le_iff] at Z1)))
        go_ret2
        refine ⟨rfl, ?_⟩
        (repeat (first | with_reducible exact Up.refl _ | with_reducible assumption | with_reducible refine Up.set ?_ (by first | exact Nat.le_refl _ | (simp only []; omega) | (simp; omega)) _ | with_reducible refine Up.alloc ?_ _ | with_reducible refine Up.drew ?_ | refine Up.trans ?_ (by with_reducible assumption)))
    · rw [if_neg (fun h => h1 h.1)]
      unfold optS
      simp only [Option.getD_none, Option.isSome_none]
      go_enter Tryz.func74, Tryz.ntmps74
      go_wp2_with ((go_at_call 82; (with_reducible refine (cD _ (hrt _ (by (repeat (first | with_reducible exact Up.refl _ | with_reducible assumption | with_reducible refine Up.set ?_ (by first | exact Nat.le_refl _ | (simp only []; omega) | (simp; omega)) _ | with_reducible refine Up.alloc ?_ _ | with_reducible refine Up.drew ?_ | refine Up.trans ?_ (by with_reducible assumption)))))).mono ?_); rintro e w1 ⟨rfl, U1⟩; have B1 := bcell U1; have Z1 := U1.size; (try simp at Z1); (try rw [Nat.add_one_le_iff] at Z1)))
      go_ret2
      refine ⟨rfl, ?_⟩
      (repeat (first | with_reducible exact Up.refl _ | with_reducible assumption | with_reducible refine Up.set ?_ (by first | exact Nat.le_refl _ | (simp only []; omega) | (simp; omega)) _ | with_reducible refine Up.alloc ?_ _ | with_reducible refine Up.drew ?_ | refine Up.trans ?_ (by with_reducible assumption)))
  · simp only [if_true]
    unfold optS
    simp only [Option.getD_some, Option.isSome_some, bs_self]
    obtain ⟨a, cap, rfl, -, -, -, -⟩ := hr
    clear cD h hv
    simp only [kV, blkV] at *
    go_enter Tryz.func74, Tryz.ntmps74
    go_wp2
    go_ret2
    refine ⟨rfl, ?_⟩
    (repeat (first | with_reducible exact Up.refl _ | with_reducible assumption | with_reducible refine Up.set ?_ (by first | exact Nat.le_refl _ | (simp only []; omega) | (simp; omega)) _ | with_reducible refine Up.alloc ?_ _ | with_reducible refine Up.drew ?_ | refine Up.trans ?_ (by with_reducible assumption)))

end Go.Proofs.YtekbbnkkninolaaGreat

/- Walks of the program's blocksData and ContainerData. Conditions: what is known is valid and can be read; the strings are no longer than 2^30 bytes. -/
namespace Go.Proofs.YtekbbnkkninolaaGreat
set_option linter.unusedVariables false
set_option linter.unusedSimpArgs false
open Go Go.RowKit

structure BdAt (T : Option (List UInt8)) (k : KnD) (v : Value) (l : List BlkD) (w : World) (j : Nat) (acc : List UInt8) (wr : World) : Prop where
  le : j ≤ l.length
  tot : addO acc (allF (datK k) (l.drop j)) = T
  al : acc.length ≤ 64 * j
  kn : KnAt w.heap.size k v wr
  sb : IsSb (w.heap.size + 1) (w.heap.size + 1) (Lib.byteCells acc) wr
  up : Up w wr
def RelBd (T : Option (List UInt8)) (k : KnD) (v : Value) (l : List BlkD) (w : World) (i : Value) (wr : World) : Prop := ∃ (j : Nat) (acc : List UInt8), i = .int .i64 j ∧ BdAt T k v l w j acc wr

set_option maxRecDepth 100000 in
set_option maxHeartbeats 8000000 in
theorem blocksDataI_any (k : KnD) (v : Value) (lo : Nat) (l : List BlkD) (vb : Value) (w : World) (h : k.Ok) (hv : k.last = -1 → k.base = k.ps.length) (hr : RdP lo w v k.ps) (hb : RdB w vb l) (hok : accOk l) (hbd : ∀ b ∈ l, ∀ x, datK k b = some x → x.length ≤ 64) :
    Calls Tryz.prog 65  #[kV k v, vb] w (Same (optS (allF (datK k) l)) w) := by
  obtain ⟨i0, hi, hz0, hz1, hz2⟩ := info_parts infoBlock
  have cD := fun b wx hr hs => blockDataI_any k v lo b wx h hv hr hs
  have hrt := fun (wq : World) (hu : Up w wq) => hr.up hu
  have HRD := Lib.hid hb
  have HOK := Lib.hid hok
  have HBD := Lib.hid hbd
  have hl40 := hok.1
  obtain ⟨T, HT⟩ : ∃ T, Hid (allF (datK k) l = T) := ⟨_, rfl⟩
  rw [HT.out]
  obtain ⟨ak, capk, rfl, -, -, -, -⟩ := hr
  obtain ⟨a, cap, rfl, hnc, hcm, -⟩ := hb
  unfold maxLen at hcm
  clear hok hbd h hv
  simp only [kV] at *
  go_enter Tryz.func65, Tryz.ntmps65
  go_wp2
  go_loopw [13] (fun i wr => RelBd T k (.slice ak k.ps.length capk) l w i wr) (fun i _ => l.length - (intOf i).toNat)
  case atStart => exact ⟨0, [], rfl, ⟨Nat.zero_le _, by rw [List.drop_zero, addO_nil]; exact HT.out, by simp, box_up ((Up.refl _).alloc _) (MapKept.heap_alloc w _).1, by simpa using isSb_new (w.alloc _), by (repeat (first | with_reducible exact Up.refl _ | with_reducible assumption | with_reducible refine Up.set ?_ (by first | exact Nat.le_refl _ | (simp only []; omega) | (simp; omega)) _ | with_reducible refine Up.alloc ?_ _ | with_reducible refine Up.drew ?_ | refine Up.trans ?_ (by with_reducible assumption)))⟩⟩
  case round =>
    obtain ⟨j, acc, rfl, hM⟩ := hrel
    have HM := Lib.hid hM
    have hj := hM.le
    have hal := hM.al
    have hsbl := hM.sb.lt
    obtain ⟨hb0, r0, r1, r2, r3, r4, r5⟩ := hM.kn.cells
    clear hM
    by_cases hlt : j < l.length
    · obtain ⟨a9, cap9, e9, -, -, hc9⟩ := HRD.out.low HM.out.up
      cases e9
      obtain ⟨g, rfl, hg, hcell⟩ := hc9 (by omega)
      obtain ⟨c0, c1, c2, c3⟩ := hcell j hlt
      obtain ⟨hb1, hb2, hb3⟩ := HOK.out.2 _ (List.getElem_mem hlt)
      have HST := fun acc x h => @addO_step (datK k) l j hlt acc x h
      have HFA := fun acc h => @addO_fail (datK k) l j hlt acc h
      have hxb := fun x h => HBD.out _ (List.getElem_mem hlt) x h
      have cD2 := fun wx hr => cD (l[j]) wx hr (by omega)
      have hrt2 := fun (wq : World) (hu : Up wr wq) => hrt wq (HM.out.up.trans hu)
      clear hcell cD
      cases hdo : datK k l[j] with
      | none =>
        rw [hdo] at cD2
        have HTN : Hid (T = none) := HM.out.tot.symm.trans (HFA _ hdo)
        clear HST HFA hxb
        clear hdo
        generalize l[j] = bj at *
        obtain ⟨bn, br, bz, bb⟩ := bj
        unfold optS at cD2
        simp only [blkV, Option.getD_none, Option.isSome_none] at c0 c1 c2 c3 cD2
        go_wp2_with ((go_at_call 74; (with_reducible refine (cD2 _ (hrt2 _ (by (repeat (first | with_reducible exact Up.refl _ | with_reducible assumption | with_reducible refine Up.set ?_ (by first | exact Nat.le_refl _ | (simp only []; omega) | (simp; omega)) _ | with_reducible refine Up.alloc ?_ _ | with_reducible refine Up.drew ?_ | refine Up.trans ?_ (by with_reducible assumption)))))).mono ?_); rintro e w1 ⟨rfl, U1⟩; have B1 := bcell U1; have Z1 := U1.size; (try simp at Z1); (try rw [Nat.add_one_le_iff] at Z1)))
        go_ret2
        refine ⟨by rw [HTN.out]; rfl, ?_⟩
        exact HM.out.up.trans (by (repeat (first | with_reducible exact Up.refl _ | with_reducible assumption | with_reducible refine Up.set ?_ (by first | exact Nat.le_refl _ | (simp only []; omega) | (simp; omega)) _ | with_reducible refine Up.alloc ?_ _ | with_reducible refine Up.drew ?_ | refine Up.trans ?_ (by with_reducible assumption))))
      | some x =>
        rw [hdo] at cD2
        have hxl := hxb x hdo
        have hzx := bs_size x
        have HTN : Hid (addO (acc ++ x) (allF (datK k) (l.drop (j + 1))) = T) := (HST _ _ hdo).symm.trans HM.out.tot
        clear HST HFA hxb
        clear hdo
        generalize l[j] = bj at *
        obtain ⟨bn, br, bz, bb⟩ := bj
        unfold optS at cD2
        simp only [blkV, Option.getD_some, Option.isSome_some] at c0 c1 c2 c3 cD2
        have cW := fun wx hx hb => sbWrite_any (w.heap.size + 1) (w.heap.size + 1) (Lib.byteCells acc) (bs x) wx hx (by rw [Lib.byteCells_length]; omega) hb
        go_wp2_with ((go_at_call 74; (with_reducible refine (cD2 _ (hrt2 _ (by (repeat (first | with_reducible exact Up.refl _ | with_reducible assumption | with_reducible refine Up.set ?_ (by first | exact Nat.le_refl _ | (simp only []; omega) | (simp; omega)) _ | with_reducible refine Up.alloc ?_ _ | with_reducible refine Up.drew ?_ | refine Up.trans ?_ (by with_reducible assumption)))))).mono ?_); rintro e w5 ⟨rfl, U5⟩; have B5 := bcell U5; have Z5 := U5.size; (try simp at Z5); (try rw [Nat.add_one_le_iff] at Z5)))
        have hU5 : Up wr w5 := by (repeat (first | with_reducible exact Up.refl _ | with_reducible assumption | with_reducible refine Up.set ?_ (by first | exact Nat.le_refl _ | (simp only []; omega) | (simp; omega)) _ | with_reducible refine Up.alloc ?_ _ | with_reducible refine Up.drew ?_ | refine Up.trans ?_ (by with_reducible assumption)))
        (with_reducible refine (cW _ (HM.out.sb.up hU5) (by have := hU5.size; omega)).mono ?_)
        rintro e w6 ⟨rfl, h6, hb6⟩
        have hU6 : Up w w6 := Below.trans (HM.out.up.trans hU5) (hb6.mono (by omega))
        have HK6 := Lib.hid (show KnAt w.heap.size k (.slice ak k.ps.length capk) w6 from (hb6.block _ (by omega)).trans (HM.out.kn.up hU5))
        have HS6 : Hid (IsSb (w.heap.size + 1) (w.heap.size + 1) (Lib.byteCells (acc ++ x)) w6) := by
          have h7 := h6
          rw [strCells_bs9, byteCells_app] at h7
          exact .inr h7
        clear h6 hb6
        go_wp2
        go_roundw
        case rel => exact ⟨j + 1, acc ++ x, by go_num, ⟨by omega, HTN.out, by rw [List.length_append]; omega, HK6.out, HS6.out, hU6⟩⟩
        case measure => simp [intOf]; omega
    · have HTN : Hid (T = some acc) := HM.out.tot.symm.trans (addO_end (by omega) _)
      have cS := fun wx hx hb => sbString_any (w.heap.size + 1) (w.heap.size + 1) acc wx hx hb
      go_wp2_with fail
      (with_reducible refine (cS _ HM.out.sb (by omega)).mono ?_)
      rintro e w7 ⟨rfl, hb7⟩
      have hU7 : Up w w7 := Below.trans HM.out.up (hb7.mono (by omega))
      go_wp2
      refine bodyPost_ret (v := .tuple #[.string (bs acc), .bool true]) (by simp [results, Tryz.results65, go_sem]; try rfl) rfl ⟨by rw [HTN.out]; rfl, hU7⟩

end Go.Proofs.YtekbbnkkninolaaGreat

/- Walk of the program's ContainerData. Conditions: the strings are no longer than 2^30 bytes. -/
namespace Go.Proofs.YtekbbnkkninolaaGreat
set_option linter.unusedVariables false
set_option linter.unusedSimpArgs false
open Go Go.RowKit

set_option maxRecDepth 100000 in
set_option maxHeartbeats 8000000 in
theorem conI_any (s : SetD) (dict st : ByteArray) (w : World) (hli : -9223372036854775808 ≤ s.lit ∧ s.lit ≤ 9223372036854775807) (hi : dict.size ≤ 1073741824) (hs : st.size ≤ 1073741824) :
    Calls Tryz.prog 19  #[setV s, .string dict, .string st] w (Same (optS (conO s dict.data.toList st)) w) := by
  have cS := fun wx => startWI_any s dict wx hli hi
  cases h1 : fitsB s dict.data.toList
  · have HN : Hid (conO s dict.data.toList st = none) := by unfold Hid conO; rw [h1]; rfl
    rw [h1] at cS
    simp only [Bool.false_eq_true, if_false] at cS
    clear h1
    simp only [setV] at *
    go_enter Tryz.func19, Tryz.ntmps19
    go_wp2_with ((go_at_call 64; (with_reducible refine (cS _).mono ?_); rintro e w1 ⟨rfl, U1⟩; have B1 := bcell U1; have Z1 := U1.size; (try simp at Z1); (try rw [Nat.add_one_le_iff] at Z1)))
    go_ret2
    refine ⟨by rw [HN.out]; rfl, ?_⟩
    (repeat (first | with_reducible exact Up.refl _ | with_reducible assumption | with_reducible refine Up.set ?_ (by first | exact Nat.le_refl _ | (simp only []; omega) | (simp; omega)) _ | with_reducible refine Up.alloc ?_ _ | with_reducible refine Up.drew ?_ | refine Up.trans ?_ (by with_reducible assumption)))
  · rw [h1] at cS
    simp only [if_true] at cS
    obtain ⟨f1, f2, f3⟩ := fitsB_lits h1
    have hok : (learnK (startK s) dict.data.toList).Ok := learnK_ok (startK_ok f1) f3
    cases hc : contBlocks st with
    | none =>
      have HN : Hid (conO s dict.data.toList st = none) := by unfold Hid conO; rw [hc]; split <;> rfl
      have cB := fun wx => contI_none hc hs wx
      clear hc h1 f1 f2 f3 hok
      generalize learnK (startK s) dict.data.toList = kk at *
      simp only [setV, kV] at *
      go_enter Tryz.func19, Tryz.ntmps19
      go_wp2_with (go_at_call 64; (with_reducible refine (cS _).mono ?_); rintro e w1 ⟨v1, rfl, ho1, U1⟩; have B1 := bcell U1; have Z1 := U1.size; simp at Z1; (try rw [Nat.add_one_le_iff] at Z1); have Y0 : w.heap.size < w1.heap.size := (by omega); obtain ⟨a1, c1, rfl⟩ := ownsRow_shape ho1; clear ho1)
      go_wp2_with fail
      (with_reducible refine (cB _).mono ?_); rintro e w2 ⟨v2, rfl, -, U2⟩
      go_wp2
      go_ret2
      refine ⟨by rw [HN.out]; rfl, ?_⟩
      (repeat (first | with_reducible exact Up.refl _ | with_reducible assumption | with_reducible refine Up.set ?_ (by first | exact Nat.le_refl _ | (simp only []; omega) | (simp; omega)) _ | with_reducible refine Up.alloc ?_ _ | with_reducible refine Up.drew ?_ | refine Up.trans ?_ (by with_reducible assumption)))
    | some l =>
      have ho := contBlocks_ok hc
      have HN : Hid (conO s dict.data.toList st = allF (datK (learnK (startK s) dict.data.toList)) l) := by
        unfold Hid conO
        rw [h1, hc, show dataO s dict.data.toList = datK (learnK (startK s) dict.data.toList) from funext fun b => datK_eq h1 b]; rfl
      have hbd : ∀ b ∈ l, ∀ x, datK (learnK (startK s) dict.data.toList) b = some x → x.length ≤ 64 := fun b hb x hx => by
        rw [← datK_eq h1] at hx
        exact dataO_bd hx (ho.2 b hb).2.1 (ho.2 b hb).2.2
      have cB := fun wx => contI_some hc hs wx
      have cA := fun v vb wx hr hb => blocksDataI_any (learnK (startK s) dict.data.toList) v 0 l vb wx hok (fun _ => rfl) hr hb ho hbd
      rw [HN.out]
      clear hc h1 f1 f2 f3 hok HN hbd ho
      generalize learnK (startK s) dict.data.toList = kk at *
      unfold optS at *
      generalize (allF (datK kk) l).isSome = ok at *
      generalize (allF (datK kk) l).getD [] = ad at *
      simp only [setV, kV] at *
      go_enter Tryz.func19, Tryz.ntmps19
      go_wp2_with (go_at_call 64; (with_reducible refine (cS _).mono ?_); rintro e w1 ⟨v1, rfl, ho1, U1⟩; have B1 := bcell U1; have Z1 := U1.size; simp at Z1; (try rw [Nat.add_one_le_iff] at Z1); have Y0 : w.heap.size < w1.heap.size := (by omega); have HR1 := Lib.hid ((RdP.of_own ho1).low (Nat.zero_le _)); obtain ⟨a1, c1, rfl⟩ := ownsRow_shape ho1; clear ho1)
      go_wp2_with fail
      (with_reducible refine (cB _).mono ?_); rintro e w2 ⟨v2, rfl, ho2, U2⟩; have B2 := bcell U2; have Z2 := U2.size; simp at Z2; (try rw [Nat.add_one_le_iff] at Z2); have Y2 : w.heap.size < w2.heap.size := (by omega); have Y3 : w1.heap.size < w2.heap.size := (by omega); have HR2 := Lib.hid (RdB.of_own ho2); obtain ⟨a2, c2, rfl⟩ := ownsRow_shape ho2; clear ho2
      go_wp2_with ((go_at_call 65; (with_reducible refine (cA _ _ _ (HR1.out.up (by (repeat (first | with_reducible exact Up.refl _ | with_reducible assumption | with_reducible refine Up.set ?_ (by first | exact Nat.le_refl _ | (simp only []; omega) | (simp; omega)) _ | with_reducible refine Up.alloc ?_ _ | with_reducible refine Up.drew ?_ | refine Up.trans ?_ (by with_reducible assumption))))) (HR2.out.low (by (repeat (first | with_reducible exact Up.refl _ | with_reducible assumption | with_reducible refine Up.set ?_ (by first | exact Nat.le_refl _ | (simp only []; omega) | (simp; omega)) _ | with_reducible refine Up.alloc ?_ _ | with_reducible refine Up.drew ?_ | refine Up.trans ?_ (by with_reducible assumption)))))).mono ?_); rintro e w3 ⟨rfl, U3⟩; have B3 := bcell U3; have Z3 := U3.size; (try simp at Z3); (try rw [Nat.add_one_le_iff] at Z3)))
      go_ret2
      refine ⟨rfl, ?_⟩
      (repeat (first | with_reducible exact Up.refl _ | with_reducible assumption | with_reducible refine Up.set ?_ (by first | exact Nat.le_refl _ | (simp only []; omega) | (simp; omega)) _ | with_reducible refine Up.alloc ?_ _ | with_reducible refine Up.drew ?_ | refine Up.trans ?_ (by with_reducible assumption)))

end Go.Proofs.YtekbbnkkninolaaGreat

/- Walk of the reference's l5Places. Conditions: the blocks are those of a string (accOk) and can be read. -/
namespace Go.Proofs.YtekbbnkkninolaaGreat
set_option linter.unusedVariables false
set_option linter.unusedSimpArgs false
open Go.RowKit

structure PlaceD where
  place : Int
  start : Int
end Go.Proofs.YtekbbnkkninolaaGreat

/- Walks of the laws' own functions that copy places that came in. Conditions: they can be read, and are at most 2^20. -/
namespace Go.Proofs.YtekbbnkkninolaaGreat
set_option linter.unusedVariables false
set_option linter.unusedSimpArgs false
open Go.RowKit

/-- A slice of places that can be read. -/
def ArgP (w : World) (v : Value) (ps : List PlaceD) : Prop := ∃ a cap, v = .slice a ps.length cap ∧ ps.length ≤ maxLen ∧ (0 < ps.length → ∃ b off, a = some ⟨b, off, none⟩ ∧ ps.length ≤ cap ∧ cap ≤ maxLen ∧ b < w.heap.size ∧ ∀ i p, ps[i]? = some p → w.cell? ⟨b, off + i * 2, none⟩ = some (.int .i64 p.place) ∧ w.cell? ⟨b, off + i * 2 + 1, none⟩ = some (.int .i64 p.start))
theorem ArgP.up {w w' : World} {v : Value} {ps : List PlaceD} (h : ArgP w v ps) (hu : Up w w') : ArgP w' v ps := by
  obtain ⟨a, cap, h1, h2, h3⟩ := h
  refine ⟨a, cap, h1, h2, fun hp => ?_⟩
  obtain ⟨b, off, e1, e2, e3, e4, e5⟩ := h3 hp
  exact ⟨b, off, e1, e2, e3, Nat.lt_of_lt_of_le e4 hu.size, fun i p hi => ⟨(hu.cell (p := ⟨b, _, none⟩) e4).trans (e5 i p hi).1, (hu.cell (p := ⟨b, _, none⟩) e4).trans (e5 i p hi).2⟩⟩

end Go.Proofs.YtekbbnkkninolaaGreat

/- Texts joined into one: Eqb, Law. Conditions: as each says. -/

/- Walks of the laws' helpers that take a setting over and compare blocks. Conditions: none. -/
namespace Go.Proofs.YtekbbnkkninolaaGreat
set_option linter.unusedVariables false
set_option linter.unusedSimpArgs false
open Go Go.RowKit

set_option maxRecDepth 100000 in
set_option maxHeartbeats 1000000 in
theorem toSet_any (o l m : Int) (w : World) :
    Calls Tryz.prog 18  #[.agg #[.int .i64 o, .int .i64 l, .int .i64 m]] w (Same (.agg #[.int .i64 o, .int .i64 l, .int .i64 m]) w) := by
  go_enter Tryz.func18, Tryz.ntmps18
  go_wp2
  refine bodyPost_ret (v := .agg #[.int .i64 o, .int .i64 l, .int .i64 m]) (by simp [results, Tryz.results18, go_sem]; try rfl) rfl ⟨rfl, ?_⟩
  (repeat (first | with_reducible exact Up.refl _ | with_reducible assumption | with_reducible refine Up.set ?_ (by first | exact Nat.le_refl _ | (simp only []; omega) | (simp; omega)) _ | with_reducible refine Up.alloc ?_ _ | with_reducible refine Up.drew ?_ | refine Up.trans ?_ (by with_reducible assumption)))
end Go.Proofs.YtekbbnkkninolaaGreat

/- The end of every law's row: the call answers true and nothing that was there has turned. Conditions: those of post_law. -/
namespace Go.Proofs.YtekbbnkkninolaaGreat
set_option linter.unusedVariables false
set_option linter.unusedSimpArgs false
open Go.ChangeShapes Go.WideShapes Go.ChangeAt Go.RowKit

theorem TryzlaidOut : laidOutB Tryz.prog = true := by kernel_rfl
theorem own : ownKnob Tryz.prog.godebug = none := by kernel_rfl

theorem trodAll_up {H : Type} {enc : TypeId × Value → H} {P : Program} (hl : laidOutB P = true) {W W' : World} (hb : Below W.heap.size W W') : ∀ (ts : List TypeId) (vs : List Value) (ds : List (DataW H)) (ps : List MemPlace),
    (∀ t ∈ ts, P.readableRec t = true ∧ t < P.types.size) → (∀ x ∈ ps, x.block < W.heap.size) → DataW.TrodAll enc P W 0 (fun _ => true) true ts vs ds ps → DataW.TrodAll enc P W' 0 (fun b => decide (b < W.heap.size)) true ts vs ds ps
  | [], [], [], _, _, _, h => h
  | t :: ts, v :: vs, d :: ds, ps, ht, hp, h => by
    obtain ⟨p, q, h1, h2, rfl⟩ := h
    refine ⟨p, q, Below.trod hl (ht t (List.mem_cons_self ..)).1 (ht t (List.mem_cons_self ..)).2 h1 hb fun x hx => hp x (List.mem_append_left _ hx), ?_, rfl⟩
    exact trodAll_up hl hb ts vs ds q (fun t h => ht t (List.mem_cons_of_mem _ h)) (fun x hx => hp x (List.mem_append_right _ hx)) h2
  | [], _ :: _, _, _, _, _, h => h.elim
  | _ :: _, [], _, _, _, _, h => h.elim
  | [], [], _ :: _, _, _, _, h => h.elim
  | _ :: _, _ :: _, [], _, _, _, h => h.elim

theorem post_law {H : Type} {enc : TypeId × Value → H} {P : Program} {f : Func} {s : ChangeSpec} {W W' : World} {args : Array Value} {ds gs : List (DataW H)} {before : List MemPlace} {tb : TypeId}
    (hl : laidOutB P = true) (hp : (f.params.all fun t => P.readableRec t && decide (t < P.types.size)) = true) (hrt : f.resultTypes = #[tb]) (htb : P.underlying tb = some .bool) (hvars : s.vars = [])
    (hW : DataW.Whole enc P f.params.toList s.vars false W args.toList ds gs before) (hs : ∀ ds' : List (DataW H), ds' = ds → (s.fn H ds').results = [.lit (.bool true)] ∧ (s.fn H ds').args = ds ∧ (s.fn H ds').vars = []) (hb : Up W W') :
    s.post enc P f false true false false W args (.bool true) W' := by
  have hlt := fun p hp => hW.lt (p := p) hp
  obtain ⟨p, q, hA, hV, rfl, hz, hn⟩ := id hW
  rw [hvars] at hV
  obtain ⟨rfl, rfl⟩ := trodVars_none hV
  obtain ⟨e1, e2, e3⟩ := hs (ds ++ []) (by simp)
  refine ⟨ds, [], p ++ [], [], p, [], hW, ?_, ?_, ?_, ?_, fun h => by cases h⟩
  · rw [e1, hrt]
    exact trodAll_mk1 (shut_bool htb true)
  · rw [e2]
    refine trodAll_up hl hb _ _ _ _ (fun t ht => ?_) (fun x hx => hlt x (by simpa using hx)) hA
    have := Array.all_eq_true_iff_forall_mem.1 hp t (by simpa using ht)
    simpa using this
  · rw [e3, hvars]
    rfl
  · exact hb.frame _

end Go.Proofs.YtekbbnkkninolaaGreat

