/- Texts joined into one: the walks and laws that the last text leans on. Conditions: as each says. -/
import Derived.Test.YtekbbnkkninolaaGreatMFnReadIndexedLawD
import Derived.Test.YtekbbnkkninolaaGreatMFnReadIndexedLawE
import Derived.Test.YtekbbnkkninolaaGreatMFnReadIndexedLawB
import Derived.Test.YtekbbnkkninolaaGreatWd
import Derived.Test.YtekbbnkkninolaaGreatGlen
import Derived.Test.YtekbbnkkninolaaGreatComp
import Derived.Test.YtekbbnkkninolaaGreatBa
import Derived.Shelf.Strings.Builder1
import Derived.Test.YtekbbnkkninolaaGreatShelf
import Derived.Test.YtekbbnkkninolaaGreatMFnReadIndexedLawC

/- Walks of the program's CompressWith, SealStream, makeBlock, BlockOf, and of the reference's SealStream. Conditions: the strings are no longer than 2^30 bytes. -/
namespace Go.Proofs.YtekbbnkkninolaaGreat
set_option linter.unusedVariables false
set_option linter.unusedSimpArgs false
open Go Go.RowKit

/-- The block of data that has been compressed, or not. -/
def mkB (o : Option (List UInt8)) (d : ByteArray) : BlkD := match o with
  | some c => if c.length < d.size then ⟨0, false, d.size, bs c⟩ else ⟨0, true, d.size, d⟩
  | none => ⟨0, true, d.size, d⟩

end Go.Proofs.YtekbbnkkninolaaGreat

/- Walk of the program's makeBlocks. Conditions: what is known is valid and can be read; the data is no longer than 2000 bytes. -/
namespace Go.Proofs.YtekbbnkkninolaaGreat
set_option linter.unusedVariables false
set_option linter.unusedSimpArgs false
open Go Go.RowKit

/-- The blocks of data, all with the number 0. -/
def blksN (k : KnD) (size : Nat) : Nat → List UInt8 → List BlkD
  | 0, _ => []
  | n + 1, d => if d = [] then [] else mkB (compO k (d.take size)) (bs (d.take size)) :: blksN k size n (d.drop size)
abbrev ownB (w : World) (base : Nat) (v : Value) (l : List BlkD) : Prop := w.ownsRow base 61 4 v l.length (cellsB l)
structure MbAt (T : List BlkD) (k : KnD) (v : Value) (size : Nat) (L : List UInt8) (w : World) (f m : Nat) (acc : List BlkD) (vb : Value) (wr : World) : Prop where
  tot : acc ++ blksN k size m (L.drop f) = T
  len : (L.drop f).length ≤ m
  fl : f ≤ 4096
  al : acc.length ≤ f
  kn : KnAt w.heap.size k v wr
  own : ownB wr (w.heap.size + 1) vb acc
  up : Up w wr
end Go.Proofs.YtekbbnkkninolaaGreat

/- strings.Builder: copyCheck and WriteString at a builder that the call has made itself. Conditions: the bytes are fewer than 2^47. -/
namespace Go.Proofs.YtekbbnkkninolaaGreat
set_option linter.unusedVariables false
set_option linter.unusedSimpArgs false
open Go Go.RowKit

theorem infoByteB : (Tryz.prog.info? 5).map (fun i => (i.zero, i.size, i.bytes)) = some (some (.int .u8 0), 1, 1) := by kernel_rfl
theorem sizeSb : (Tryz.prog.info? 137).map (·.size) = some 2 := by kernel_rfl
theorem liesSb : liesAt Tryz.prog Tryz.prog.depth 137 (2 / Tryz.prog.cellsOf 137) 0 137 1 = true := by kernel_rfl
abbrev SbAt (B b : Nat) (p : Value) (l : List Value) (w : World) : Prop := Lib.BuilderAt 137 5 B b p l w
abbrev IsSb (B b : Nat) (l : List Value) (w : World) : Prop := Lib.IsBuilder 137 5 B b l w

set_option maxHeartbeats 1000000 in
set_option maxRecDepth 100000 in
theorem sbCheck_used (b : Nat) (w : World) (h0 : w.cell? ⟨b, 0, none⟩ = some (.pointer (some ⟨b, 0, none⟩))) :
    Calls Tryz.prog 151 #[.pointer (some ⟨b, 0, none⟩)] w fun e w' => e = .returned (.tuple #[]) ∧ w' = w := by
  obtain ⟨j, hj, _⟩ := Option.map_eq_some_iff.1 sizeSb
  go_enter Tryz.func151, Tryz.ntmps151
  go_wp2
  rw [Lib.run_neq_ptr_same w _ Tryz.underlying135 hj]
  go_wp2
  go_end0
  exact ⟨rfl, rfl⟩

set_option maxHeartbeats 1000000 in
set_option maxRecDepth 100000 in
theorem sbCheck_fresh (b : Nat) (w : World) (h0 : w.cell? ⟨b, 0, none⟩ = some (.pointer none)) (hsh : w.shape? b = some (137, 2)) (hfz : w.frozen? ⟨b, 0, none⟩ = false) :
    Calls Tryz.prog 151 #[.pointer (some ⟨b, 0, none⟩)] w fun e w' => e = .returned (.tuple #[]) ∧ w' = w.setCell ⟨b, 0, none⟩ (.pointer (some ⟨b, 0, none⟩)) := by
  obtain ⟨j, hj, hjs⟩ := Option.map_eq_some_iff.1 sizeSb
  go_enter Tryz.func151, Tryz.ntmps151
  go_wp2
  rw [Lib.run_to_unsafe w ⟨b, 0, none⟩ Tryz.underlying135 Tryz.underlying189 hj (by rw [hjs]; decide) hsh (Nat.zero_lt_succ 1)]
  simp only [Result.andThen]
  rw [Oper.upon_value]
  go_wp2
  rw [run_callFunc_extern Tryz.func179 (by kernel_rfl) (by kernel_rfl) (by kernel_rfl) (e := Extern.AbiNoEscape.same) (by kernel_rfl)]
  rw [Lib.run_noEscape]
  simp only [Result.andThen]
  rw [Oper.upon_value]
  go_wp2
  rw [Lib.run_from_unsafe w ⟨b, 0, none⟩ Tryz.underlying189 Tryz.underlying135 hj hsh liesSb]
  simp only [Result.andThen]
  rw [Oper.upon_value]
  go_wp2
  go_end0
  exact ⟨rfl, rfl⟩

theorem sbCheck_any (B b : Nat) (l : List Value) (w : World) (h : IsSb B b l w) :
    Calls Tryz.prog 151 #[.pointer (some ⟨b, 0, none⟩)] w fun e w' => e = .returned (.tuple #[]) ∧ (SbAt B b (.pointer (some ⟨b, 0, none⟩)) l w' ∧ Below B w w') := by
  rcases h with h | h
  · refine (sbCheck_fresh b w h.cell0 h.shape h.frozen0).mono ?_
    rintro e w' ⟨rfl, rfl⟩
    exact ⟨rfl, h.used _, (Below.refl B w).setCell (p := ⟨b, 0, none⟩) h.1 _⟩
  · refine (sbCheck_used b w h.cell0).mono ?_
    rintro e w' ⟨rfl, rfl⟩
    exact ⟨rfl, h, Below.refl B _⟩

set_option maxHeartbeats 2000000 in
set_option maxRecDepth 100000 in
theorem sbWrite_any (B b : Nat) (l : List Value) (s : ByteArray) (w : World) (h : IsSb B b l w) (hlen : l.length + s.size ≤ 140737488355328) (hBw : B ≤ w.heap.size) :
    Calls Tryz.prog 125 #[.pointer (some ⟨b, 0, none⟩), .string s] w fun e w' => e = .returned (.tuple #[.int .i64 s.size, .nilIface]) ∧ (SbAt B b (.pointer (some ⟨b, 0, none⟩)) (l ++ Lib.strCells s) w' ∧ Below B w w') := by
  obtain ⟨i0, hi, hz0, hz1, hz2⟩ := info_parts infoByteB
  have cK := fun wx hx => sbCheck_any B b l wx hx
  go_enter Tryz.func125, Tryz.ntmps125
  go_wp2_with fail
  (with_reducible refine (cK _ h).mono ?_)
  rintro e w1 ⟨rfl, h1, hb1⟩
  obtain ⟨hB, v, hbk, hown, hne⟩ := h1
  have c0 : w1.cell? ⟨b, 0, none⟩ = some (.pointer (some ⟨b, 0, none⟩)) := by rw [Lib.cell_of_heap hbk]; rfl
  have c1 : w1.cell? ⟨b, 1, none⟩ = some v := by rw [Lib.cell_of_heap hbk]; rfl
  go_wp2_with (at_builtin; refine Lib.wpList_append_own_string _ rfl _ _ 38 9 rfl B 5 i0 Tryz.underlying38 Tryz.underlying9 hi hz0 hz1 hz2 _ _ _ rfl hown s rfl ?c3 ?c4 ?c5 ?_)
  case c3 => unfold maxLen; omega
  case c4 => omega
  case c5 => have := hb1.size; omega
  intro v' w2 hown' hgrow _
  have hlt : b < w1.heap.size := by
    rcases Nat.lt_or_ge b w1.heap.size with h' | h'
    · exact h'
    · simp [Array.getElem?_eq_none h'] at hbk
  have hb2 : w2.heap[b]? = some (.cells #[.pointer (some ⟨b, 0, none⟩), v] 137 (0, 0)) := by
    rw [hgrow.block b hlt (fun e => hne e.symm)]
    exact hbk
  have d0 : w2.cell? ⟨b, 0, none⟩ = some (.pointer (some ⟨b, 0, none⟩)) := by rw [Lib.cell_of_heap hb2]; rfl
  have d1 : w2.cell? ⟨b, 1, none⟩ = some v := by rw [Lib.cell_of_heap hb2]; rfl
  have f1 : w2.frozen? ⟨b, 1, none⟩ = false := Lib.frozen_of_heap hb2 1
  obtain ⟨ao, n', cap, rfl⟩ : ∃ ao n' cap, v' = .slice ao n' cap := by
    rcases hown'.2 with ⟨hv, _⟩ | ⟨g, cap, cur, hv, _⟩
    · exact ⟨_, _, _, hv⟩
    · exact ⟨_, _, _, hv⟩
  go_wp2
  go_ret2
  refine ⟨rfl, ?_, ?_⟩
  · exact Lib.BuilderAt.put (T := 137) (e := 5) hB hb2 (bs' := l ++ Lib.strCells s) (by simpa [Lib.strCells_length] using hown') (by decide)
  · exact (hb1.grown hgrow (by have := hb1.size; omega) (fun k hk => (hown.lt k hk).1)).setCell (p := ⟨b, 1, none⟩) hB _

end Go.Proofs.YtekbbnkkninolaaGreat

/- Walks of the program's makeContainer and MakeContainer. Conditions: as each says. -/
namespace Go.Proofs.YtekbbnkkninolaaGreat
set_option linter.unusedVariables false
set_option linter.unusedSimpArgs false
open Go Go.RowKit

theorem IsSb.up {B b : Nat} {l : List Value} {w w' : World} (h : IsSb B b l w) (hu : Up w w') : IsSb B b l w' := by
  have hs : ∀ p, SbAt B b p l w → SbAt B b p l w' := fun p ⟨h1, v, h2, h3, h4⟩ => ⟨h1, v, box_up hu h2, ownsRow_up h3 hu, h4⟩
  exact h.imp (hs _) (hs _)
theorem IsSb.lt {B b : Nat} {l : List Value} {w : World} (h : IsSb B b l w) : b < w.heap.size := h.elim (fun h => h.lt) (fun h => h.lt)
theorem strCells_bs9 (l : List UInt8) : Lib.strCells (bs l) = Lib.byteCells l := by simp [Lib.strCells, Lib.byteCells, bs_data]
theorem byteCells_app (a b : List UInt8) : Lib.byteCells a ++ Lib.byteCells b = Lib.byteCells (a ++ b) := by simp [Lib.byteCells]
theorem isSb_new (w : World) : IsSb w.heap.size w.heap.size (Lib.byteCells []) (w.alloc (.cells #[.pointer none, .slice none 0 0] 137)) :=
  .inl ⟨Nat.le_refl _, _, (MapKept.heap_alloc w _).1, World.ownsRow_nil _ _ _ _, by simp [Value.ownBlock]⟩
/-- What String gives. -/
theorem sbString_any (B b : Nat) (l : List UInt8) (w : World) (h : IsSb B b (Lib.byteCells l) w) (hB : B ≤ w.heap.size) :
    Calls Tryz.prog 126 #[.pointer (some ⟨b, 0, none⟩)] w (fun e w' => e = .returned (.string (bs l)) ∧ Below B w w') :=
  (Tryz.Builder_String_any_f B b l w (Lib.IsBuilderF.of h) hB).mono fun e w' ⟨he, h1, h2⟩ => ⟨he, h2⟩

/-- The bytes of blocks with new numbers. -/
def numbT (i : Nat) : List BlkD → List UInt8
  | [] => []
  | b :: l => (textB i b.raw b.size b.body).data.toList ++ numbT (i + 1) l
/-- Blocks that may stand in a container. -/
structure McOk (l : List BlkD) : Prop where
  acc : accOk l
  sum : sizeSum l ≤ 2000
  form : ∀ (i : Nat) (h : i < l.length), formB (i : Nat) (l[i]).raw (l[i]).size (l[i]).body = true
/-- A row of blocks that can be read. -/
def RdB (w : World) (v : Value) (l : List BlkD) : Prop := ∃ a cap, v = .slice a l.length cap ∧ l.length ≤ cap ∧ cap ≤ maxLen ∧ (0 < l.length → ∃ g, a = some ⟨g, 0, none⟩ ∧ g < w.heap.size ∧ ∀ i (h : i < l.length), w.cell? ⟨g, i * 4, none⟩ = some (.int .i64 (l[i]).num) ∧ w.cell? ⟨g, i * 4 + 1, none⟩ = some (.bool (l[i]).raw) ∧ w.cell? ⟨g, i * 4 + 2, none⟩ = some (.int .i64 (l[i]).size) ∧ w.cell? ⟨g, i * 4 + 3, none⟩ = some (.string (l[i]).body))
theorem RdB.low {w w' : World} {v : Value} {l : List BlkD} (h : RdB w v l) (hb : Below w.heap.size w w') : RdB w' v l := by
  obtain ⟨a, cap, h1, h2, h3, h4⟩ := h
  refine ⟨a, cap, h1, h2, h3, fun hp => ?_⟩
  obtain ⟨g, e1, e2, e3⟩ := h4 hp
  refine ⟨g, e1, Nat.lt_of_lt_of_le e2 hb.size, fun i hi => ?_⟩
  obtain ⟨c0, c1, c2, c3⟩ := e3 i hi
  exact ⟨(hb.cell (p := ⟨g, _, none⟩) e2).trans c0, (hb.cell (p := ⟨g, _, none⟩) e2).trans c1, (hb.cell (p := ⟨g, _, none⟩) e2).trans c2, (hb.cell (p := ⟨g, _, none⟩) e2).trans c3⟩
theorem RdB.of_own {w : World} {base : Nat} {v : Value} {l : List BlkD} (h : ownB w base v l) : RdB w v l := by
  obtain ⟨a, cap, rfl, hm, hsome⟩ := ownsRow_any h
  by_cases hp : 0 < l.length
  · obtain ⟨g, rfl, hnc, hcm, hbg, hg, hcells⟩ := hsome hp
    refine ⟨_, cap, rfl, hnc, hcm, fun _ => ⟨g, rfl, hg, fun i hi => ?_⟩⟩
    exact blk_cells (w := w) hcells hi
  · have hcp := ownsRow_cap h
    exact ⟨_, cap, rfl, hcp.1, by unfold maxLen; exact hcp.2, fun h => absurd h hp⟩

structure McAt (T : List UInt8) (l : List BlkD) (w1 : World) (j : Nat) (acc : List UInt8) (wr : World) : Prop where
  le : j ≤ l.length
  tot : acc ++ numbT j (l.drop j) = T
  al : acc.length ≤ 74 * j
  sb : IsSb w1.heap.size w1.heap.size (Lib.byteCells acc) wr
  up : Up w1 wr
end Go.Proofs.YtekbbnkkninolaaGreat

/- Walks of the reference's l5All, ContainerData and ReadRange. Conditions: the strings are no longer than 2^30 bytes. -/
namespace Go.Proofs.YtekbbnkkninolaaGreat
set_option linter.unusedVariables false
set_option linter.unusedSimpArgs false
open Go Go.RowKit

/-- The data of blocks, one behind the other. -/
def allF (f : BlkD → Option (List UInt8)) : List BlkD → Option (List UInt8)
  | [] => some []
  | b :: l => match f b with
    | none => none
    | some x => (allF f l).map (x ++ ·)
def addO (acc : List UInt8) (o : Option (List UInt8)) : Option (List UInt8) := o.map (acc ++ ·)
theorem dataO_bd {s : SetD} {dict : List UInt8} {b : BlkD} {x : List UInt8} (h : dataO s dict b = some x) (h1 : b.size ≤ 64) (h2 : b.body.size ≤ 64) : x.length ≤ 64 := by
  unfold dataO at h
  split at h
  · cases h
    have := ba_len b.body; omega
  · split at h
    · next h3 =>
      cases h
      have := h3.2.2; omega
    · cases h
theorem addO_step {f : BlkD → Option (List UInt8)} {l : List BlkD} {j : Nat} (hlt : j < l.length) {acc x : List UInt8} (h : f l[j] = some x) : addO acc (allF f (l.drop j)) = addO (acc ++ x) (allF f (l.drop (j + 1))) := by
  rw [List.drop_eq_getElem_cons hlt, allF, h]
  unfold addO
  cases allF f (l.drop (j + 1)) <;> simp
theorem addO_fail {f : BlkD → Option (List UInt8)} {l : List BlkD} {j : Nat} (hlt : j < l.length) {acc : List UInt8} (h : f l[j] = none) : addO acc (allF f (l.drop j)) = none := by
  rw [List.drop_eq_getElem_cons hlt, allF, h]; rfl
theorem addO_end {f : BlkD → Option (List UInt8)} {l : List BlkD} {j : Nat} (h : l.length ≤ j) (acc : List UInt8) : addO acc (allF f (l.drop j)) = some acc := by
  rw [List.drop_of_length_le h]; simp [allF, addO]
theorem addO_nil (o : Option (List UInt8)) : addO [] o = o := by cases o <;> simp [addO]
theorem allF_bd {f : BlkD → Option (List UInt8)} : ∀ (l : List BlkD) (x : List UInt8), (∀ b ∈ l, ∀ y, f b = some y → y.length ≤ 64) → allF f l = some x → x.length ≤ 64 * l.length
  | [], x, _, h => by cases h; simp
  | b :: l, x, ha, h => by
    rw [allF] at h
    cases h1 : f b with
    | none => rw [h1] at h; cases h
    | some y =>
      rw [h1] at h
      cases h2 : allF f l with
      | none => rw [h2] at h; cases h
      | some z =>
        rw [h2] at h; cases h
        have g3 := ha b (List.mem_cons_self ..) y h1
        have g4 := allF_bd l z (fun b hb => ha b (List.mem_cons_of_mem _ hb)) h2
        simp only [List.length_append, List.length_cons]; omega

structure DaAt (T : Option (List UInt8)) (s : SetD) (dict : List UInt8) (l : List BlkD) (w : World) (j : Nat) (acc : List UInt8) (wr : World) : Prop where
  le : j ≤ l.length
  tot : addO acc (allF (dataO s dict) (l.drop j)) = T
  al : acc.length ≤ 64 * j
  set : SetAt w.heap.size s.ord s.lit s.most wr
  up : Up w wr
def RelDaC (T : Option (List UInt8)) (s : SetD) (dict : List UInt8) (l : List BlkD) (w : World) (o i : Value) (wr : World) : Prop := ∃ (j : Nat) (acc : List UInt8), o = .string (bs acc) ∧ i = .int .i64 j ∧ DaAt T s dict l w j acc wr

set_option maxRecDepth 100000 in
set_option maxHeartbeats 8000000 in
theorem l5All_any (s : SetD) (dict : ByteArray) (l : List BlkD) (v : Value) (w : World) (hi : dict.size ≤ 1073741824) (hr : RdB w v l) (hok : accOk l) :
    Calls Tryz.prog 63  #[setV s, .string dict, v] w (Same (optS (allF (dataO s dict.data.toList) l)) w) := by
  have cD := fun b wx hb => l5Data_any s dict b wx hi hb
  have HRD := Lib.hid hr
  have HOK := Lib.hid hok
  have hl40 := hok.1
  obtain ⟨T, HT⟩ : ∃ T, Hid (allF (dataO s dict.data.toList) l = T) := ⟨_, rfl⟩
  rw [HT.out]
  obtain ⟨a, cap, rfl, hnc, hcm, -⟩ := hr
  unfold maxLen at hcm
  clear hok
  simp only [setV] at *
  go_enter Tryz.func63, Tryz.ntmps63
  go_wp2
  go_loopw [8, 9] (fun o i wr => RelDaC T s dict.data.toList l w o i wr) (fun _ i _ => l.length - (intOf i).toNat)
  case atStart => exact ⟨0, [], rfl, rfl, ⟨Nat.zero_le _, by rw [List.drop_zero, addO_nil]; exact HT.out, by simp, (MapKept.heap_alloc w _).1, by (repeat (first | with_reducible exact Up.refl _ | with_reducible assumption | with_reducible refine Up.set ?_ (by first | exact Nat.le_refl _ | (simp only []; omega) | (simp; omega)) _ | with_reducible refine Up.alloc ?_ _ | with_reducible refine Up.drew ?_ | refine Up.trans ?_ (by with_reducible assumption)))⟩⟩
  case round =>
    obtain ⟨j, acc, rfl, rfl, hM⟩ := hrel
    have HM := Lib.hid hM
    have hj := hM.le
    have hal := hM.al
    have hza := bs_size acc
    obtain ⟨hb0, s0, s1, s2⟩ := hM.set.cells
    clear hM
    by_cases hlt : j < l.length
    · obtain ⟨a9, cap9, e9, -, -, hc9⟩ := HRD.out.low HM.out.up
      cases e9
      obtain ⟨g, rfl, hg, hcell⟩ := hc9 (by omega)
      obtain ⟨c0, c1, c2, c3⟩ := hcell j hlt
      obtain ⟨hb1, hb2, hb3⟩ := HOK.out.2 _ (List.getElem_mem hlt)
      have HST := fun acc x h => @addO_step (dataO s dict.data.toList) l j hlt acc x h
      have HFA := fun acc h => @addO_fail (dataO s dict.data.toList) l j hlt acc h
      have HBD := fun x (h9 : dataO s dict.data.toList (l[j]'hlt) = some x) => dataO_bd h9 hb2 hb3
      have cD2 := fun wx => cD (l[j]) wx (by omega)
      clear hcell cD
      cases hdo : dataO s dict.data.toList l[j] with
      | none =>
        rw [hdo] at cD2
        have HTN : Hid (T = none) := HM.out.tot.symm.trans (HFA _ hdo)
        clear HST HFA HBD
        clear hdo
        generalize l[j] = bj at *
        obtain ⟨bn, br, bz, bb⟩ := bj
        unfold optS at cD2
        simp only [blkV, Option.getD_none, Option.isSome_none] at c0 c1 c2 c3 cD2
        go_wp2
        refine wp_region_up 12 (by kernel_rfl) (by kernel_rfl) ?_
        simp only [List.take, List.drop]
        repeat (refine wpUp_step (fun K hK => ?_); go_simp; (try simp only [↓IntWalk.iteOmega]); first
          | (refine hK _ _ ?_; clear hK K)
          | (apply stepU_c
             · intro wq hwq; (have hbq := bcell hwq; (repeat (first | refine fills_no (by rfl) ?_ | refine fills_yes (by rfl) (fun vq hvq => ?_))); simp only [List.filter_nil, fills]; unfold upAt; (try ((have e0 := (hwq.cell (p := ⟨g, j * 4, none⟩) hg).trans c0; have e1 := (hwq.cell (p := ⟨g, j * 4 + 1, none⟩) hg).trans c1; have e2 := (hwq.cell (p := ⟨g, j * 4 + 2, none⟩) hg).trans c2; have e3 := (hwq.cell (p := ⟨g, j * 4 + 3, none⟩) hg).trans c3; obtain ⟨hbz, s0, s1, s2⟩ := SetAt.cells (box_up hwq HM.out.set)))); go_simp; (try go_bits); (try simp only [↓IntWalk.iteOmega]); (try (rw [dif_pos (by omega)]; go_simp; try go_bits)); first | exact upOut_value | (apply upOut_call; (go_at_call 123; with_reducible exact cD2 _)) | (apply upOut_eq; (go_at_call 123; with_reducible exact cD2 _)))
             go_simp; refine hK _ _ ?_; clear hK K))
        refine wpUp_nil (fun wq hwq => ?_)
        simp only [fills]
        go_wp2
        go_ret2
        refine ⟨by rw [HTN.out]; rfl, ?_⟩
        exact HM.out.up.trans (by (repeat (first | with_reducible exact Up.refl _ | with_reducible assumption | with_reducible refine Up.set ?_ (by first | exact Nat.le_refl _ | (simp only []; omega) | (simp; omega)) _ | with_reducible refine Up.alloc ?_ _ | with_reducible refine Up.drew ?_ | refine Up.trans ?_ (by with_reducible assumption))))
      | some x =>
        rw [hdo] at cD2
        have hxl := HBD x hdo
        have hzx := bs_size x
        have HTN : Hid (addO (acc ++ x) (allF (dataO s dict.data.toList) (l.drop (j + 1))) = T) := (HST _ _ hdo).symm.trans HM.out.tot
        clear HST HFA HBD
        clear hdo
        generalize l[j] = bj at *
        obtain ⟨bn, br, bz, bb⟩ := bj
        unfold optS at cD2
        simp only [blkV, Option.getD_some, Option.isSome_some] at c0 c1 c2 c3 cD2
        go_wp2
        refine wp_region_up 12 (by kernel_rfl) (by kernel_rfl) ?_
        simp only [List.take, List.drop]
        repeat (refine wpUp_step (fun K hK => ?_); go_simp; (try simp only [↓IntWalk.iteOmega]); first
          | (refine hK _ _ ?_; clear hK K)
          | (apply stepU_c
             · intro wq hwq; (have hbq := bcell hwq; (repeat (first | refine fills_no (by rfl) ?_ | refine fills_yes (by rfl) (fun vq hvq => ?_))); simp only [List.filter_nil, fills]; unfold upAt; (try ((have e0 := (hwq.cell (p := ⟨g, j * 4, none⟩) hg).trans c0; have e1 := (hwq.cell (p := ⟨g, j * 4 + 1, none⟩) hg).trans c1; have e2 := (hwq.cell (p := ⟨g, j * 4 + 2, none⟩) hg).trans c2; have e3 := (hwq.cell (p := ⟨g, j * 4 + 3, none⟩) hg).trans c3; obtain ⟨hbz, s0, s1, s2⟩ := SetAt.cells (box_up hwq HM.out.set)))); go_simp; (try go_bits); (try simp only [↓IntWalk.iteOmega]); (try (rw [dif_pos (by omega)]; go_simp; try go_bits)); first | exact upOut_value | (apply upOut_call; (go_at_call 123; with_reducible exact cD2 _)) | (apply upOut_eq; (go_at_call 123; with_reducible exact cD2 _)))
             go_simp; refine hK _ _ ?_; clear hK K))
        refine wpUp_nil (fun wq hwq => ?_)
        simp only [fills]
        go_wp2
        go_roundw
        case rel => exact ⟨j + 1, acc ++ x, congrArg Value.string (bs_app _ _), by go_num, ⟨by omega, HTN.out, by rw [List.length_append]; omega, box_up (by (repeat (first | with_reducible exact Up.refl _ | with_reducible assumption | with_reducible refine Up.set ?_ (by first | exact Nat.le_refl _ | (simp only []; omega) | (simp; omega)) _ | with_reducible refine Up.alloc ?_ _ | with_reducible refine Up.drew ?_ | refine Up.trans ?_ (by with_reducible assumption)))) HM.out.set, HM.out.up.trans (by (repeat (first | with_reducible exact Up.refl _ | with_reducible assumption | with_reducible refine Up.set ?_ (by first | exact Nat.le_refl _ | (simp only []; omega) | (simp; omega)) _ | with_reducible refine Up.alloc ?_ _ | with_reducible refine Up.drew ?_ | refine Up.trans ?_ (by with_reducible assumption))))⟩⟩
        case measure => simp [intOf]; omega
    · have HTN : Hid (T = some acc) := HM.out.tot.symm.trans (addO_end (by omega) _)
      go_wp2
      go_ret2
      exact ⟨by rw [HTN.out]; rfl, HM.out.up⟩

def conO (s : SetD) (dict : List UInt8) (st : ByteArray) : Option (List UInt8) := if fitsB s dict then (contBlocks st).bind (allF (dataO s dict)) else none
theorem conO_bd {s : SetD} {dict : List UInt8} {st : ByteArray} {x : List UInt8} (h : conO s dict st = some x) : x.length ≤ 4096 := by
  unfold conO at h
  split at h
  · cases hc : contBlocks st with
    | none => rw [hc] at h; cases h
    | some l =>
      rw [hc, Option.bind_some] at h
      have ho := contBlocks_ok hc
      have := allF_bd l x (fun b hb y hy => dataO_bd hy (ho.2 b hb).2.1 (ho.2 b hb).2.2) h
      have := ho.1
      omega
  · cases h

set_option maxRecDepth 100000 in
set_option maxHeartbeats 8000000 in
theorem conS_any (s : SetD) (dict st : ByteArray) (w : World) (hi : dict.size ≤ 1073741824) (hs : st.size ≤ 1073741824) :
    Calls Tryz.prog 17  #[setV s, .string dict, .string st] w (Same (optS (conO s dict.data.toList st)) w) := by
  have cR := fun wx => l5Ready_any s dict wx hi
  cases hc : contBlocks st with
  | none =>
    have HN : Hid (conO s dict.data.toList st = none) := by unfold Hid conO; rw [hc]; split <;> rfl
    have cB := fun wx => contS_none hc hs wx
    clear hc cR
    simp only [setV] at *
    go_enter Tryz.func17, Tryz.ntmps17
    go_wp2_with fail
    (with_reducible refine (cB _).mono ?_); rintro e w2 ⟨v, rfl, -, U2⟩
    go_wp2
    go_ret2
    refine ⟨by rw [HN.out]; rfl, ?_⟩
    (repeat (first | with_reducible exact Up.refl _ | with_reducible assumption | with_reducible refine Up.set ?_ (by first | exact Nat.le_refl _ | (simp only []; omega) | (simp; omega)) _ | with_reducible refine Up.alloc ?_ _ | with_reducible refine Up.drew ?_ | refine Up.trans ?_ (by with_reducible assumption)))
  | some l =>
    have cB := fun wx => contS_some hc hs wx
    have ho := contBlocks_ok hc
    cases hf : fitsB s dict.data.toList
    · have HN : Hid (conO s dict.data.toList st = none) := by unfold Hid conO; rw [hf]; rfl
      rw [hf] at cR
      clear hc hf ho
      simp only [setV] at *
      go_enter Tryz.func17, Tryz.ntmps17
      go_wp2_with fail
      (with_reducible refine (cB _).mono ?_); rintro e w2 ⟨v, rfl, ho2, U2⟩; have B2 := bcell U2; have Z2 := U2.size; simp at Z2; (try rw [Nat.add_one_le_iff] at Z2); obtain ⟨a2, c2, rfl⟩ := ownsRow_shape ho2; clear ho2
      go_wp2_with ((go_at_call 62; (with_reducible refine (cR _).mono ?_); rintro e w3 ⟨rfl, U3⟩; have B3 := bcell U3; have Z3 := U3.size; (try simp at Z3); (try rw [Nat.add_one_le_iff] at Z3)))
      go_ret2
      refine ⟨by rw [HN.out]; rfl, ?_⟩
      (repeat (first | with_reducible exact Up.refl _ | with_reducible assumption | with_reducible refine Up.set ?_ (by first | exact Nat.le_refl _ | (simp only []; omega) | (simp; omega)) _ | with_reducible refine Up.alloc ?_ _ | with_reducible refine Up.drew ?_ | refine Up.trans ?_ (by with_reducible assumption)))
    · have HN : Hid (conO s dict.data.toList st = allF (dataO s dict.data.toList) l) := by unfold Hid conO; rw [hf, hc]; rfl
      rw [hf] at cR
      have cA := fun v wx hr => l5All_any s dict l v wx hi hr ho
      rw [HN.out]
      clear hc hf ho HN
      unfold optS at cA
      unfold optS
      generalize (allF (dataO s dict.data.toList) l).isSome = ok at *
      generalize (allF (dataO s dict.data.toList) l).getD [] = ad at *
      simp only [setV] at *
      go_enter Tryz.func17, Tryz.ntmps17
      go_wp2_with fail
      (with_reducible refine (cB _).mono ?_); rintro e w2 ⟨v, rfl, ho2, U2⟩; have B2 := bcell U2; have Z2 := U2.size; simp at Z2; (try rw [Nat.add_one_le_iff] at Z2); have HR2 := Lib.hid (RdB.of_own ho2); obtain ⟨a2, c2, rfl⟩ := ownsRow_shape ho2; clear ho2
      go_wp2_with (first | (go_at_call 62; (with_reducible refine (cR _).mono ?_); rintro e w3 ⟨rfl, U3⟩; have B3 := bcell U3; have Z3 := U3.size; (try simp at Z3); (try rw [Nat.add_one_le_iff] at Z3)) | (go_at_call 63; (with_reducible refine (cA _ _ (HR2.out.low (by (repeat (first | with_reducible exact Up.refl _ | with_reducible assumption | with_reducible refine Up.set ?_ (by first | exact Nat.le_refl _ | (simp only []; omega) | (simp; omega)) _ | with_reducible refine Up.alloc ?_ _ | with_reducible refine Up.drew ?_ | refine Up.trans ?_ (by with_reducible assumption)))))).mono ?_); rintro e w4 ⟨rfl, U4⟩; have B4 := bcell U4; have Z4 := U4.size; (try simp at Z4); (try rw [Nat.add_one_le_iff] at Z4)))
      go_ret2
      refine ⟨rfl, ?_⟩
      (repeat (first | with_reducible exact Up.refl _ | with_reducible assumption | with_reducible refine Up.set ?_ (by first | exact Nat.le_refl _ | (simp only []; omega) | (simp; omega)) _ | with_reducible refine Up.alloc ?_ _ | with_reducible refine Up.drew ?_ | refine Up.trans ?_ (by with_reducible assumption)))

/-- A part of data. -/
def rngO (o : Option (List UInt8)) (f t : Int) : Option (List UInt8) := o.bind fun d => if 0 ≤ f ∧ f ≤ t ∧ t ≤ d.length then some ((d.drop f.toNat).take (t.toNat - f.toNat)) else none

end Go.Proofs.YtekbbnkkninolaaGreat

/- Plain: a block is parsed from its bytes, whatever is before and behind them, and not without the last one. Conditions: the block's parts fit together. -/
namespace Go.Proofs.YtekbbnkkninolaaGreat
set_option linter.unusedVariables false
set_option linter.unusedSimpArgs false
open Go.RowKit

theorem byteAt_mid (A T C : ByteArray) (i : Nat) (h : i < T.size) : byteAt (A ++ T ++ C) (A.size + i) = byteAt T i := by
  have hA : A.data.toList.length = A.size := by simp
  have hT : T.data.toList.length = T.size := by simp
  unfold byteAt
  rw [ba_append, ba_append, List.append_assoc, List.getD_eq_getElem?_getD, List.getD_eq_getElem?_getD, List.getElem?_append_right (by omega), hA, show A.size + i - A.size = i by omega, List.getElem?_append_left (by omega)]
theorem numAt_mid (A T C : ByteArray) (i : Nat) (h : i + 1 < T.size) : numAt (A ++ T ++ C) (A.size + i) = numAt T i := by
  unfold numAt
  rw [byteAt_mid A T C i (by omega), show A.size + i + 1 = A.size + (i + 1) by omega, byteAt_mid A T C (i + 1) h]
theorem ext_mid (A T C : ByteArray) (i j : Nat) (hij : i ≤ j) (hj : j ≤ T.size) : (A ++ T ++ C).extract (A.size + i) (A.size + j) = T.extract i j := by
  have hA : A.data.toList.length = A.size := by simp
  have hT : T.data.toList.length = T.size := by simp
  apply ba_ext
  rw [Lib.extract_data, Lib.extract_data, ba_append, ba_append, List.append_assoc, List.drop_append, List.drop_of_length_le (by omega), List.nil_append, hA, show A.size + i - A.size = i by omega, List.drop_append_of_le_length (by omega), List.take_append_of_le_length (by rw [List.length_drop]; omega), show A.size + j - (A.size + i) = j - i by omega]
theorem size3 (A T C : ByteArray) : (A ++ T ++ C).size = A.size + T.size + C.size := by rw [ByteArray.size_append, ByteArray.size_append]

def u8of (n : Int) : UInt8 := UInt8.ofNat n.toNat
theorem u8of_nat {n : Int} (h0 : 0 ≤ n) (h1 : n ≤ 255) : ((u8of n).toNat : Int) = n := by unfold u8of; rw [UInt8.toNat_ofNat']; omega
theorem text_list (n : Int) (r : Bool) (s : Int) (b : ByteArray) : (textB n r s b).data.toList = [u8of 181, u8of (kindB r), u8of (n / 256), u8of (n % 256), u8of (s / 256), u8of (s % 256), u8of ((b.size : Int) / 256), u8of ((b.size : Int) % 256)] ++ (b.data.toList ++ [u8of (sumOf (inner n r s b) / 256), u8of (sumOf (inner n r s b) % 256)]) := by
  unfold textB
  rw [ba_append, ba_append, ba_nums, two, ba_nums]
  conv => lhs; arg 1; arg 2; unfold inner
  simp only [ba_append, two, ba_nums]
  simp [u8of]
theorem text_size (n : Int) (r : Bool) (s : Int) (b : ByteArray) : (textB n r s b).size = b.size + 10 := by
  have h := congrArg List.length (text_list n r s b)
  have hT : (textB n r s b).data.toList.length = (textB n r s b).size := by simp
  have hb : b.data.toList.length = b.size := by simp
  rw [hT, List.length_append, List.length_append, hb] at h
  simp at h
  omega
/-- What the bytes of a block are. -/
structure TextOf (n : Int) (r : Bool) (s : Int) (b T : ByteArray) : Prop where
  size : T.size = b.size + 10
  b0 : byteAt T 0 = 181
  b1 : byteAt T 1 = kindB r
  n2 : numAt T 2 = n
  n4 : numAt T 4 = s
  n6 : numAt T 6 = b.size
  body : T.extract 8 (8 + b.size) = b
  inn : T.extract 1 (8 + b.size) = inner n r s b
  sum : numAt T (8 + b.size) = sumOf (inner n r s b)
theorem textOf {n : Int} {r : Bool} {s : Int} {b : ByteArray} (h1 : 0 ≤ n ∧ n ≤ 39) (h2 : 1 ≤ s ∧ s ≤ 64) (h3 : b.size ≤ 64) : TextOf n r s b (textB n r s b) := by
  have hl := text_list n r s b
  have hs := text_size n r s b
  have hsb := sumOf_bd (inner n r s b)
  have hbl : b.data.toList.length = b.size := by simp
  have hk : 0 ≤ kindB r ∧ kindB r ≤ 255 := by unfold kindB; split <;> omega
  have hlow : ∀ i (x : Int), 0 ≤ x → x ≤ 255 → ([u8of 181, u8of (kindB r), u8of (n / 256), u8of (n % 256), u8of (s / 256), u8of (s % 256), u8of ((b.size : Int) / 256), u8of ((b.size : Int) % 256)] : List UInt8)[i]? = some (u8of x) → byteAt (textB n r s b) i = x := fun i x x0 x1 hi => by
    unfold byteAt
    rw [hl, List.getD_eq_getElem?_getD, List.getElem?_append_left (List.getElem?_eq_some_iff.1 hi).1, hi]
    exact u8of_nat x0 x1
  have hhigh : ∀ i (x : Int), 0 ≤ x → x ≤ 255 → ([u8of (sumOf (inner n r s b) / 256), u8of (sumOf (inner n r s b) % 256)] : List UInt8)[i]? = some (u8of x) → byteAt (textB n r s b) (8 + b.size + i) = x := fun i x x0 x1 hi => by
    unfold byteAt
    rw [hl, List.getD_eq_getElem?_getD, List.getElem?_append_right (by simp; omega), List.getElem?_append_right (by simp; omega)]
    rw [show 8 + b.size + i - ([u8of 181, u8of (kindB r), u8of (n / 256), u8of (n % 256), u8of (s / 256), u8of (s % 256), u8of ((b.size : Int) / 256), u8of ((b.size : Int) % 256)] : List UInt8).length - b.data.toList.length = i by rw [hbl]; simp; omega, hi]
    exact u8of_nat x0 x1
  have hbody : (textB n r s b).extract 8 (8 + b.size) = b := by
    apply ba_ext
    rw [Lib.extract_data, hl, show 8 + b.size - 8 = b.size by omega]
    rw [List.drop_append_of_le_length (by simp), List.drop_of_length_le (by simp), List.nil_append, List.take_append_of_le_length (by omega), ← hbl, List.take_length]
  refine ⟨hs, hlow 0 181 (by omega) (by omega) rfl, hlow 1 _ hk.1 hk.2 rfl, ?_, ?_, ?_, hbody, ?_, ?_⟩
  · unfold numAt; rw [hlow 2 (n / 256) (by omega) (by omega) rfl, hlow 3 (n % 256) (by omega) (by omega) rfl]; omega
  · unfold numAt; rw [hlow 4 (s / 256) (by omega) (by omega) rfl, hlow 5 (s % 256) (by omega) (by omega) rfl]; omega
  · unfold numAt; rw [hlow 6 ((b.size : Int) / 256) (by omega) (by omega) rfl, hlow 7 ((b.size : Int) % 256) (by omega) (by omega) rfl]; omega
  · have e : inner n r s b = strOfNums [kindB r] ++ two n ++ two s ++ two b.size ++ b := rfl
    apply ba_ext
    rw [Lib.extract_data, hl, show 8 + b.size - 1 = b.size + 7 by omega]
    conv => rhs; rw [e]
    simp only [ba_append, two, ba_nums]
    simp only [List.cons_append, List.nil_append, List.drop_succ_cons, List.drop_zero, List.map_cons, List.map_nil, List.append_assoc]
    rw [show b.size + 7 = b.size + 1 + 1 + 1 + 1 + 1 + 1 + 1 by omega]
    simp only [List.take_succ_cons]
    rw [List.take_append_of_le_length (by omega), ← hbl, List.take_length]
    rfl
  · unfold numAt
    have g1 := hhigh 0 (sumOf (inner n r s b) / 256) (by omega) (by omega) rfl
    have g2 := hhigh 1 (sumOf (inner n r s b) % 256) (by omega) (by omega) rfl
    rw [Nat.add_zero] at g1
    rw [g1, g2]
    omega

theorem parse_text {n : Int} {r : Bool} {s : Int} {b : ByteArray} (h : formB n r s b = true) (A C : ByteArray) :
    parseV (A ++ textB n r s b ++ C) (A.size : Nat) = .tuple #[.agg #[.int .i64 n, .bool r, .int .i64 s, .string b], .int .i64 (A.size + (textB n r s b).size : Nat), .bool true] := by
  obtain ⟨h1, h2, h3⟩ := formB_bd h
  have t := textOf (r := r) h1 h2 h3
  generalize textB n r s b = T at *
  have hz := t.size
  have hsz := size3 A T C
  have e0 : byteAt (A ++ T ++ C) A.size = 181 := by have := byteAt_mid A T C 0 (by omega); rw [Nat.add_zero] at this; rw [this, t.b0]
  have e1 : byteAt (A ++ T ++ C) (A.size + 1) = kindB r := by rw [byteAt_mid A T C 1 (by omega), t.b1]
  have e2 : numAt (A ++ T ++ C) (A.size + 2) = n := by rw [numAt_mid A T C 2 (by omega), t.n2]
  have e4 : numAt (A ++ T ++ C) (A.size + 4) = s := by rw [numAt_mid A T C 4 (by omega), t.n4]
  have e6 : numAt (A ++ T ++ C) (A.size + 6) = b.size := by rw [numAt_mid A T C 6 (by omega), t.n6]
  have ee : endAt (A ++ T ++ C) A.size = A.size + (8 + b.size) := by unfold endAt; rw [e6]; omega
  have eb : bodyAt (A ++ T ++ C) A.size = b := by
    unfold bodyAt; rw [e6, show A.size + 8 + ((b.size : Nat) : Int).toNat = A.size + (8 + b.size) by omega, ext_mid A T C 8 (8 + b.size) (by omega) (by omega), t.body]
  have ei : (A ++ T ++ C).extract (A.size + 1) (endAt (A ++ T ++ C) A.size) = inner n r s b := by rw [ee, ext_mid A T C 1 (8 + b.size) (by omega) (by omega), t.inn]
  have es : numAt (A ++ T ++ C) (endAt (A ++ T ++ C) A.size) = sumOf (inner n r s b) := by rw [ee, numAt_mid A T C (8 + b.size) (by omega), t.sum]
  have ek : (kindB r == 0) = r := by cases r <;> rfl
  have hk1 : kindB r ≤ 1 := by cases r <;> decide
  have hp : parseOk (A ++ T ++ C) A.size = true := by
    unfold parseOk headOk
    rw [e0, e1, e2, e4, eb, ei, es, ek, h, ee]
    simp only [Bool.and_eq_true, decide_eq_true_eq, beq_iff_eq]
    refine ⟨⟨⟨⟨⟨by omega, trivial⟩, hk1⟩, by omega⟩, trivial⟩, trivial⟩
  rw [parseV_yes hp]
  unfold parsed
  rw [e1, e2, e4, eb, ek, ee]
  have : A.size + (8 + b.size) + 2 = A.size + T.size := by omega
  rw [this]
end Go.Proofs.YtekbbnkkninolaaGreat

/- Plain: where the blocks of a container lie in it. Conditions: the string is a container. -/
namespace Go.Proofs.YtekbbnkkninolaaGreat
set_option linter.unusedVariables false
set_option linter.unusedSimpArgs false
open Go.RowKit

theorem body_size {s : ByteArray} {k : Nat} (h : endAt s k + 2 ≤ s.size) : k + 10 + (bodyAt s k).size = endAt s k + 2 := by
  unfold endAt at *
  unfold bodyAt
  rw [ByteArray.size_extract]; omega
theorem bytesSum_snoc (l : List BlkD) (b : BlkD) : bytesSum (l ++ [b]) = bytesSum l + 10 + b.body.size := by
  simp only [bytesSum, List.map_append, List.sum_append, List.map_cons, List.map_nil, List.sum_cons, List.sum_nil]; omega
/-- Block i of l lies at its place in s. -/
def LiesAt (s : ByteArray) (l : List BlkD) (i : Nat) (b : BlkD) : Prop := ∃ p : Nat, (p : Int) = bytesSum (l.take i) ∧ p < s.size ∧ parseOk s p = true ∧ blkAt s p = b ∧ b.num = i ∧ ((endAt s p + 2 : Nat) : Int) = bytesSum (l.take (i + 1)) ∧ endAt s p + 2 ≤ s.size
theorem goBlocks_lies {s : ByteArray} : ∀ (n k : Nat) (acc l : List BlkD), s.size - k ≤ n → (k : Int) = bytesSum acc → k ≤ s.size → (∀ i b, acc[i]? = some b → LiesAt s acc i b) → goBlocks s k acc = some l → ((s.size : Nat) : Int) = bytesSum l ∧ ∀ i b, l[i]? = some b → LiesAt s l i b := by
  intro n
  induction n with
  | zero =>
    intro k acc l hn hk hks hacc h
    rw [go_end (by omega)] at h; cases h
    exact ⟨by rw [← hk]; omega, hacc⟩
  | succ n ih =>
    intro k acc l hn hk hks hacc h
    by_cases hlt : k < s.size
    · by_cases hp : parseOk s k = true ∧ numAt s (k + 2) = acc.length
      · rw [← go_step hlt hp.1 hp.2] at h
        have hend := (parseOk_form hp.1).2.1
        have hbs := body_size hend
        have hsn := bytesSum_snoc acc (blkAt s k)
        have hbb : (blkAt s k).body = bodyAt s k := rfl
        have hk2 : ((endAt s k + 2 : Nat) : Int) = bytesSum (acc ++ [blkAt s k]) := by rw [hsn, hbb, ← hk]; omega
        refine ih _ _ l (by have := endAt_lt s k; omega) hk2 hend (fun i b hb => ?_) h
        rcases Nat.lt_or_ge i acc.length with hi | hi
        · rw [List.getElem?_append_left hi] at hb
          obtain ⟨p, h1, h2, h3, h4, h5, h6, h7⟩ := hacc i b hb
          exact ⟨p, by rw [List.take_append_of_le_length (by omega)]; exact h1, h2, h3, h4, h5, by rw [List.take_append_of_le_length (by omega)]; exact h6, h7⟩
        · have hie : i = acc.length := by
            have := (List.getElem?_eq_some_iff.1 hb).1
            simp at this; omega
          subst hie
          rw [List.getElem?_append_right (Nat.le_refl _)] at hb
          simp at hb
          subst hb
          exact ⟨k, by rw [List.take_left]; exact hk, hlt, hp.1, rfl, hp.2, by rw [List.take_of_length_le (by simp)]; exact hk2, hend⟩
      · rw [go_fail hlt hp] at h; cases h
    · rw [go_end hlt] at h; cases h
      exact ⟨by rw [← hk]; omega, hacc⟩
theorem cont_lies {s : ByteArray} {l : List BlkD} (h : contBlocks s = some l) : ((s.size : Nat) : Int) = bytesSum l ∧ sizeSum l ≤ 2000 ∧ ∀ i b, l[i]? = some b → LiesAt s l i b := by
  unfold contBlocks at h
  cases hg : goBlocks s 0 [] with
  | none => rw [hg] at h; cases h
  | some l' =>
    rw [hg, Option.bind_some] at h
    split at h
    · next hsz =>
      cases h
      obtain ⟨h1, h2⟩ := goBlocks_lies s.size 0 [] l (by omega) (by simp [bytesSum]) (Nat.zero_le _) (fun i b hb => by simp at hb) hg
      exact ⟨h1, hsz, h2⟩
    · cases h
end Go.Proofs.YtekbbnkkninolaaGreat

/- Walks of TouchedBlocks, the program's and the reference's. Conditions: the string's length is below 2^30. -/
namespace Go.Proofs.YtekbbnkkninolaaGreat
set_option linter.unusedVariables false
set_option linter.unusedSimpArgs false
open Go.RowKit

/-- Whether block number i has data of the range. -/
def hitB (l : List BlkD) (lo hi : Int) (i : Nat) : Bool := decide (sizeSum (l.take i) < hi) && decide (lo < sizeSum (l.take (i + 1))) && decide (lo < hi)
def touchK (l : List BlkD) (lo hi : Int) (k : Nat) : List Int := ((List.range k).filter (hitB l lo hi)).map fun (i : Nat) => (i : Int)
theorem touchK_hit {l : List BlkD} {lo hi : Int} {k : Nat} (h : hitB l lo hi k = true) : touchK l lo hi (k + 1) = touchK l lo hi k ++ [(k : Int)] := by simp [touchK, List.range_succ, List.filter_append, h]
theorem touchK_miss {l : List BlkD} {lo hi : Int} {k : Nat} (h : hitB l lo hi k = false) : touchK l lo hi (k + 1) = touchK l lo hi k := by simp [touchK, List.range_succ, List.filter_append, h]
theorem touchK_length (l : List BlkD) (lo hi : Int) (k : Nat) : (touchK l lo hi k).length ≤ k := by
  have := List.length_filter_le (hitB l lo hi) (List.range k)
  simp [touchK] at *; exact this
def contTouch (s : ByteArray) (lo hi : Int) : List Int := match contBlocks s with | none => [] | some l => touchK l lo hi l.length
theorem hitB_iff {l : List BlkD} {lo hi : Int} {k : Nat} : hitB l lo hi k = true ↔ sizeSum (l.take k) < hi ∧ lo < sizeSum (l.take (k + 1)) ∧ lo < hi := by simp [hitB, and_assoc]
theorem hitB_not {l : List BlkD} {lo hi : Int} {k : Nat} : hitB l lo hi k = false ↔ ¬ (sizeSum (l.take k) < hi ∧ lo < sizeSum (l.take (k + 1)) ∧ lo < hi) := by rw [← hitB_iff]; simp
theorem cellsI_snocT (l : List Int) (x : Int) : cellsI (l ++ [x]) = cellsI l ++ [.int .i64 x] := by simp [cellsI]
theorem oneInt (x : Int) : ∀ u ∈ [Value.int .i64 x], u.oneCell' = true := by
  intro u hu; simp at hu; subst hu; rfl

def RelT (l : List BlkD) (lo hi : Int) (w : World) (v t i : Value) (wr : World) : Prop := ∃ k : Nat, k ≤ l.length ∧ i = .int .i64 k ∧ t = .int .i64 (sizeSum (l.take k)) ∧ wr.ownsRow w.heap.size 3 1 v (touchK l lo hi k).length (cellsI (touchK l lo hi k)) ∧ Up w wr

def TouchPost (s : ByteArray) (lo hi : Int) (w : World) (e : Ending) (w' : World) : Prop := ∃ v, e = .returned v ∧ w'.ownsRow w.heap.size 3 1 v (contTouch s lo hi).length (cellsI (contTouch s lo hi)) ∧ Up w w'

set_option maxRecDepth 100000 in
set_option maxHeartbeats 2000000 in
theorem touchI_any (s : ByteArray) (lo hi : Int) (w : World) (hs : s.size ≤ 1073741824) :
    Calls Tryz.prog 58 #[.string s, .int .i64 lo, .int .i64 hi] w (TouchPost s lo hi w) := by
  obtain ⟨i0, hi0, hz0, hz1, hz2⟩ := info_parts infoInt
  unfold TouchPost contTouch
  cases hc : contBlocks s with
  | none =>
    have cP := contI_none hc hs
    clear hc
    go_enter Tryz.func58, Tryz.ntmps58
    go_wp2_with (go_at_call 54; (with_reducible refine (cP _).mono ?_); rintro e w1 ⟨v, rfl, hown, U1⟩)
    go_ret
    exact ⟨_, rfl, World.ownsRow_nil _ _ _ _, U1⟩
  | some l =>
    have cP := contI_some hc hs
    have hok := contBlocks_ok hc
    have hl40 := hok.1
    clear hc
    go_enter Tryz.func58, Tryz.ntmps58
    go_wp2_with (go_at_call 54; (with_reducible refine (cP _).mono ?_); rintro e w1 ⟨v, rfl, hownB, U1⟩; obtain ⟨a, cap, rfl, hm, hsome⟩ := ownsRow_any hownB)
    go_loopw [9, 10, 23] (fun v t i wr => RelT l lo hi w1 v t i wr) (fun _ _ i _ => l.length - (intOf i).toNat)
    case atStart => exact ⟨0, Nat.zero_le _, rfl, rfl, World.ownsRow_nil _ _ _ _, Up.refl _⟩
    case round =>
      obtain ⟨k, hk, rfl, rfl, hown, hup⟩ := hrel
      have htl := touchK_length l lo hi k
      have hsz := hup.size
      have hlen : (l.take k).length ≤ 40 := by simp; omega
      obtain ⟨hb1, hb2⟩ := sizeSum_bd (accOk_take hok k)
      have hb3 : sizeSum (l.take k) ≤ 2560 := by omega
      clear hb2 hlen
      by_cases hlt : k < l.length
      · obtain ⟨g, rfl, hnc, hcm, hbg, hg, hcells⟩ := hsome (by omega)
        obtain ⟨c0, c1, c2, c3⟩ := blk_cells (w := wr) (fun j u hj => (hup.cell (p := ⟨g, j, none⟩) hg).trans (hcells j u hj)) hlt
        obtain ⟨hs1, hs2, _⟩ := (hok.2 l[k] (List.getElem_mem hlt))
        have HS : Hid (sizeSum (l.take (k + 1)) = sizeSum (l.take k) + l[k].size) := sizeSum_take hlt
        clear hcells
        cases hh : hitB l lo hi k
        · have HT := Lib.hid (touchK_miss hh)
          have hh' := hitB_not.1 hh
          rw [HS.out] at hh'
          clear hh
          generalize sizeSum (l.take k) = S at *
          generalize l[k].size = Z at *
          by_cases q1 : S < lo
          all_goals by_cases q2 : hi < S + Z
          all_goals
            first
            | (exfalso; omega)
            | go_wp2
              go_roundw
              case rel => exact ⟨k + 1, by omega, by go_num, by rw [HS.out], by rw [HT.out]; exact hown.alloc _, hup.alloc _⟩
              case measure => simp [intOf]; omega
        · have HT := Lib.hid (touchK_hit hh)
          obtain ⟨q1, q2, q3⟩ := hitB_iff.1 hh
          rw [HS.out] at q2
          clear hh
          generalize sizeSum (l.take k) = S at *
          generalize l[k].size = Z at *
          by_cases r1 : S < lo
          all_goals by_cases r2 : hi < S + Z
          all_goals
            go_wp2_with (at_builtin; refine wpList_append_own _ rfl _ _ 54 rfl w1.heap.size 3 i0 (.int .i64 0) 1 8 Tryz.underlying54 hi0 hz0 hz1 hz2 rfl (by decide) _ _ _ rfl ((hown.alloc _).alloc _) ⟨wr.heap.size + 1, 0, none⟩ 1 1 [.int .i64 k] rfl rfl (new_cells [.int .i64 k] _ (size_alloc _ _).symm) (oneInt _) (by unfold maxLen; omega) (by omega) (by simp; omega) ?_; rintro v2 w2 hown2 hgr2 -)
            go_roundw
            case rel => exact ⟨k + 1, by omega, by go_num, by rw [HS.out], by rw [HT.out, cellsI_snocT, List.length_append]; exact hown2, ((hup.alloc _).alloc _).grown hgr2 (fun x hx => (hown.lt x hx).1)⟩
            case measure => simp [intOf]; omega
      · have e : k = l.length := by omega
        subst e
        go_wp2
        go_ret
        exact ⟨_, rfl, ownsRow_base hown U1.size, U1.trans hup⟩

end Go.Proofs.YtekbbnkkninolaaGreat

/- Walks of the laws' own functions that copy places that came in. Conditions: they can be read, and are at most 2^20. -/
namespace Go.Proofs.YtekbbnkkninolaaGreat
set_option linter.unusedVariables false
set_option linter.unusedSimpArgs false
open Go.RowKit

/-- A slice of places that can be read. -/
def ArgP (w : World) (v : Value) (ps : List PlaceD) : Prop := ∃ a cap, v = .slice a ps.length cap ∧ ps.length ≤ maxLen ∧ (0 < ps.length → ∃ b off, a = some ⟨b, off, none⟩ ∧ ps.length ≤ cap ∧ cap ≤ maxLen ∧ b < w.heap.size ∧ ∀ i p, ps[i]? = some p → w.cell? ⟨b, off + i * 2, none⟩ = some (.int .i64 p.place) ∧ w.cell? ⟨b, off + i * 2 + 1, none⟩ = some (.int .i64 p.start))
theorem ArgP.up {w w' : World} {v : Value} {ps : List PlaceD} (h : ArgP w v ps) (hu : Up w w') : ArgP w' v ps := by
  obtain ⟨a, cap, h1, h2, h3⟩ := h
  refine ⟨a, cap, h1, h2, fun hp => ?_⟩
  obtain ⟨b, off, e1, e2, e3, e4, e5⟩ := h3 hp
  exact ⟨b, off, e1, e2, e3, Nat.lt_of_lt_of_le e4 hu.size, fun i p hi => ⟨(hu.cell (p := ⟨b, _, none⟩) e4).trans (e5 i p hi).1, (hu.cell (p := ⟨b, _, none⟩) e4).trans (e5 i p hi).2⟩⟩

end Go.Proofs.YtekbbnkkninolaaGreat

/- Walk of the reference's l5Seek. Conditions: the places can be read. -/
namespace Go.Proofs.YtekbbnkkninolaaGreat
set_option linter.unusedVariables false
set_option linter.unusedSimpArgs false
open Go.RowKit

/-- The last of the first k places that does not begin behind an offset, or -1. -/
def seekK (ps : List PlaceD) (o : Int) : Nat → Int
  | 0 => -1
  | k + 1 => if ((ps[k]?).map fun p => decide (p.start ≤ o)) = some true then k else seekK ps o k
theorem seekK_hit {ps : List PlaceD} {o : Int} {k : Nat} (h : k < ps.length) (hp : ps[k].start ≤ o) : seekK ps o (k + 1) = k := by
  rw [seekK, if_pos (by rw [List.getElem?_eq_getElem h]; simp [hp])]
theorem seekK_miss {ps : List PlaceD} {o : Int} {k : Nat} (h : k < ps.length) (hp : ¬ ps[k].start ≤ o) : seekK ps o (k + 1) = seekK ps o k := by
  rw [seekK, if_neg (by rw [List.getElem?_eq_getElem h]; simp; omega)]

def RelK (ps : List PlaceD) (o : Int) (w : World) (f i : Value) (wr : World) : Prop := ∃ k : Nat, k ≤ ps.length ∧ i = .int .i64 k ∧ f = .int .i64 (seekK ps o k) ∧ Up w wr

/-- What a place must be at its turn. -/
def plcB (ps : List PlaceD) (i : Nat) : Bool := match ps[i]? with
  | none => false
  | some p => decide (0 ≤ p.place ∧ p.place ≤ 4000 ∧ 0 ≤ p.start ∧ p.start ≤ 2000) && (if i = 0 then decide (p.place = 0 ∧ p.start = 0) else match ps[i - 1]? with
    | none => false
    | some q => decide (q.place < p.place ∧ q.start < p.start))
theorem plcB_zero {ps : List PlaceD} (h : 0 < ps.length) : plcB ps 0 = decide (ps[0].place = 0 ∧ ps[0].start = 0) := by
  unfold plcB
  rw [List.getElem?_eq_getElem h]
  simp only [if_true]
  rw [Bool.eq_iff_iff]; simp; omega
theorem plcB_succ {ps : List PlaceD} {k : Nat} (h : k + 1 < ps.length) : plcB ps (k + 1) = decide ((0 ≤ ps[k + 1].place ∧ ps[k + 1].place ≤ 4000 ∧ 0 ≤ ps[k + 1].start ∧ ps[k + 1].start ≤ 2000) ∧ ps[k].place < ps[k + 1].place ∧ ps[k].start < ps[k + 1].start) := by
  unfold plcB
  rw [List.getElem?_eq_getElem h, Nat.add_sub_cancel, List.getElem?_eq_getElem (by omega : k < ps.length)]
  simp only [Nat.succ_ne_zero, if_false]
  rw [Bool.eq_iff_iff]; simp
def validP (ps : List PlaceD) : Bool := decide (ps.length ≤ 40) && (List.range ps.length).all (plcB ps)
theorem validP_no {ps : List PlaceD} {i : Nat} (h : i < ps.length) (hn : plcB ps i = false) : validP ps = false := by
  have : (List.range ps.length).all (plcB ps) = false := by
    rw [List.all_eq_false]; exact ⟨i, List.mem_range.2 h, by simp [hn]⟩
  unfold validP; rw [this, Bool.and_false]
theorem validP_len {ps : List PlaceD} (h : ¬ ps.length ≤ 40) : validP ps = false := by
  unfold validP; rw [decide_eq_false h, Bool.false_and]
theorem validP_yes {ps : List PlaceD} (h : ps.length ≤ 40) (hh : ∀ i, i < ps.length → plcB ps i = true) : validP ps = true := by
  unfold validP; rw [decide_eq_true h, Bool.true_and, List.all_eq_true]
  exact fun i hi => hh i (List.mem_range.1 hi)

end Go.Proofs.YtekbbnkkninolaaGreat

/- Walk of the program's placesValid. Conditions: the places can be read. -/
namespace Go.Proofs.YtekbbnkkninolaaGreat
set_option linter.unusedVariables false
set_option linter.unusedSimpArgs false
open Go.RowKit

def RelV (ps : List PlaceD) (w : World) (i : Value) (wr : World) : Prop := ∃ k : Nat, k ≤ ps.length ∧ i = .int .i64 k ∧ (∀ j, j < k → plcB ps j = true) ∧ Up w wr

theorem plcB_no1 {ps : List PlaceD} {k : Nat} (h : k < ps.length) (hb : ¬ (0 ≤ ps[k].place ∧ ps[k].place ≤ 4000 ∧ 0 ≤ ps[k].start ∧ ps[k].start ≤ 2000)) : plcB ps k = false := by
  unfold plcB
  rw [List.getElem?_eq_getElem h]
  simp only [decide_eq_false hb, Bool.false_and]

set_option maxRecDepth 100000 in
set_option maxHeartbeats 4000000 in
theorem validI_any (ps : List PlaceD) (v : Value) (base : Nat) (w : World) (hown : w.ownsRow base 76 2 v ps.length (cellsP ps)) (hl : ps.length ≤ 1048576) :
    Calls Tryz.prog 71 #[v] w (Same (.bool (validP ps)) w) := by
  obtain ⟨a, ca, rfl, hm, -⟩ := ownsRow_any hown
  by_cases h40 : (40 : Int) < ps.length
  · have HN : Hid (validP ps = false) := validP_len (by omega)
    rw [HN.out]
    go_enter Tryz.func71, Tryz.ntmps71
    go_wp2
    go_ret
    exact ⟨rfl, Up.refl _⟩
  · go_enter Tryz.func71, Tryz.ntmps71
    go_wp2
    go_loopw [10] (fun i wr => RelV ps w i wr) (fun i _ => ps.length - (intOf i).toNat)
    case atStart => exact ⟨0, Nat.zero_le _, rfl, fun j hj => absurd hj (Nat.not_lt_zero _), Up.refl _⟩
    case round =>
      obtain ⟨k, hk, rfl, hall, hup⟩ := hrel
      have HA := Lib.hid hall
      clear hall
      by_cases hlt : k < ps.length
      · obtain ⟨g, rfl, hc1, hc2, -, hg⟩ := ownsRow_slot hown (by omega)
        have hrd := read_cells (ownsRow_up hown hup)
        obtain ⟨c0, c1⟩ := plc_cells' hrd hlt
        have hgw := Nat.lt_of_lt_of_le hg hup.size
        by_cases hb : 0 ≤ ps[k].place ∧ ps[k].place ≤ 4000 ∧ 0 ≤ ps[k].start ∧ ps[k].start ≤ 2000
        · obtain ⟨q1, q2, q3, q4⟩ := hb
          have nxt : ∀ (hp : plcB ps k = true) (j : Nat), j < k + 1 → plcB ps j = true := fun hp j hj => by
            rcases Nat.lt_or_ge j k with h | h
            · exact HA.out j h
            · have : j = k := by omega
              rw [this]; exact hp
          have NX := Lib.hid nxt
          clear nxt
          cases k with
          | zero =>
            clear hrd
            have HZ := Lib.hid (plcB_zero hlt)
            generalize hx : ps[0].place = x at *
            generalize hy : ps[0].start = y at *
            by_cases e1 : x = 0
            · by_cases e2 : y = 0
              · have HP : Hid (plcB ps 0 = true) := by unfold Hid; rw [HZ.out]; simp [e1, e2]
                subst e1 e2
                clear hx hy
                go_wp2
                refine wp_region_up 24 (by kernel_rfl) (by kernel_rfl) ?_
                simp only [List.take, List.drop]
                repeat (refine wpUp_step (fun K hK => ?_); go_simp; (try simp only [↓IntWalk.iteOmega]); first
                  | (refine hK _ _ ?_; clear hK K)
                  | (apply stepU_c
                     · intro wq hwq; (have hbq := bcell hwq; (repeat (first | refine fills_no (by rfl) ?_ | refine fills_yes (by rfl) (fun vq hvq => ?_))); simp only [List.filter_nil, fills]; unfold upAt; (try (skip)); go_simp; (try go_bits); (try simp only [↓IntWalk.iteOmega]); (try (rw [dif_pos (by omega)]; go_simp; try go_bits)); first | exact upOut_value)
                     go_simp; refine hK _ _ ?_; clear hK K))
                refine wpUp_nil (fun wq hwq => ?_)
                simp only [fills]
                go_wp2
                go_roundw
                case rel => exact ⟨0 + 1, by omega, by go_num, NX.out HP.out, (hup.alloc _).trans hwq⟩
                case measure => simp [intOf]; omega
              · have HN : Hid (validP ps = false) := validP_no hlt (by rw [HZ.out]; simp [e2])
                subst e1
                have e2' : (y == 0) = false := by simpa using e2
                clear hx hy
                go_wp2
                go_ret
                exact ⟨ret_bool HN.out.symm, hup.alloc _⟩
            · have HN : Hid (validP ps = false) := validP_no hlt (by rw [HZ.out]; simp [e1])
              have e1' : (x == 0) = false := by simpa using e1
              clear hx hy
              go_wp2
              go_ret
              exact ⟨ret_bool HN.out.symm, hup.alloc _⟩
          | succ j =>
            obtain ⟨d0, d1⟩ := plc_cells' hrd (show j < ps.length by omega)
            clear hrd
            have HZ := Lib.hid (plcB_succ hlt)
            generalize ps[j + 1].place = x at *
            generalize ps[j + 1].start = y at *
            generalize ps[j].place = x' at *
            generalize ps[j].start = y' at *
            by_cases e1 : x ≤ x'
            · have HN : Hid (validP ps = false) := validP_no hlt (by rw [HZ.out]; simp; omega)
              go_wp2
              refine wp_region_up 24 (by kernel_rfl) (by kernel_rfl) ?_
              simp only [List.take, List.drop]
              repeat (refine wpUp_step (fun K hK => ?_); go_simp; (try simp only [↓IntWalk.iteOmega]); first
                | (refine hK _ _ ?_; clear hK K)
                | (apply stepU_c
                   · intro wq hwq; (have hbq := bcell hwq; (repeat (first | refine fills_no (by rfl) ?_ | refine fills_yes (by rfl) (fun vq hvq => ?_))); simp only [List.filter_nil, fills]; unfold upAt; (try ((have x0 := hbq.1 g (j * 2) (by simp; omega); have x1 := hbq.1 g (j * 2 + 1) (by simp; omega)))); go_simp; (try go_bits); (try simp only [↓IntWalk.iteOmega]); (try (rw [dif_pos (by omega)]; go_simp; try go_bits)); first | exact upOut_value)
                   go_simp; refine hK _ _ ?_; clear hK K))
              refine wpUp_nil (fun wq hwq => ?_)
              simp only [fills]
              go_wp2
              go_ret
              exact ⟨ret_bool HN.out.symm, (hup.alloc _).trans hwq⟩
            · by_cases e2 : y ≤ y'
              · have HN : Hid (validP ps = false) := validP_no hlt (by rw [HZ.out]; simp; omega)
                go_wp2
                refine wp_region_up 24 (by kernel_rfl) (by kernel_rfl) ?_
                simp only [List.take, List.drop]
                repeat (refine wpUp_step (fun K hK => ?_); go_simp; (try simp only [↓IntWalk.iteOmega]); first
                  | (refine hK _ _ ?_; clear hK K)
                  | (apply stepU_c
                     · intro wq hwq; (have hbq := bcell hwq; (repeat (first | refine fills_no (by rfl) ?_ | refine fills_yes (by rfl) (fun vq hvq => ?_))); simp only [List.filter_nil, fills]; unfold upAt; (try ((have x0 := hbq.1 g (j * 2) (by simp; omega); have x1 := hbq.1 g (j * 2 + 1) (by simp; omega)))); go_simp; (try go_bits); (try simp only [↓IntWalk.iteOmega]); (try (rw [dif_pos (by omega)]; go_simp; try go_bits)); first | exact upOut_value)
                     go_simp; refine hK _ _ ?_; clear hK K))
                refine wpUp_nil (fun wq hwq => ?_)
                simp only [fills]
                go_wp2
                go_ret
                exact ⟨ret_bool HN.out.symm, (hup.alloc _).trans hwq⟩
              · have HP : Hid (plcB ps (j + 1) = true) := by unfold Hid; rw [HZ.out]; simp; omega
                go_wp2
                refine wp_region_up 24 (by kernel_rfl) (by kernel_rfl) ?_
                simp only [List.take, List.drop]
                repeat (refine wpUp_step (fun K hK => ?_); go_simp; (try simp only [↓IntWalk.iteOmega]); first
                  | (refine hK _ _ ?_; clear hK K)
                  | (apply stepU_c
                     · intro wq hwq; (have hbq := bcell hwq; (repeat (first | refine fills_no (by rfl) ?_ | refine fills_yes (by rfl) (fun vq hvq => ?_))); simp only [List.filter_nil, fills]; unfold upAt; (try ((have x0 := hbq.1 g (j * 2) (by simp; omega); have x1 := hbq.1 g (j * 2 + 1) (by simp; omega)))); go_simp; (try go_bits); (try simp only [↓IntWalk.iteOmega]); (try (rw [dif_pos (by omega)]; go_simp; try go_bits)); first | exact upOut_value)
                     go_simp; refine hK _ _ ?_; clear hK K))
                refine wpUp_nil (fun wq hwq => ?_)
                simp only [fills]
                go_wp2
                go_roundw
                case rel => exact ⟨j + 1 + 1, by omega, by go_num, NX.out HP.out, (hup.alloc _).trans hwq⟩
                case measure => simp [intOf]; omega
        · have HN : Hid (validP ps = false) := validP_no hlt (plcB_no1 hlt hb)
          clear hrd
          generalize ps[k].place = x at *
          generalize ps[k].start = y at *
          by_cases q1 : x < 0
          · go_wp2
            go_ret
            exact ⟨ret_bool HN.out.symm, hup.alloc _⟩
          · by_cases q2 : 4000 < x
            · go_wp2
              go_ret
              exact ⟨ret_bool HN.out.symm, hup.alloc _⟩
            · by_cases q3 : y < 0
              · go_wp2
                go_ret
                exact ⟨ret_bool HN.out.symm, hup.alloc _⟩
              · have q4 : 2000 < y := by omega
                clear hb
                go_wp2
                go_ret
                exact ⟨ret_bool HN.out.symm, hup.alloc _⟩
      · have e : k = ps.length := by omega
        have HN : Hid (validP ps = true) := validP_yes (by omega) (fun i hi => HA.out i (by omega))
        go_wp2
        go_ret
        exact ⟨ret_bool HN.out.symm, hup⟩

end Go.Proofs.YtekbbnkkninolaaGreat

/- Walks of SeekBlock, the program's and the reference's. Conditions: the places can be read. -/
namespace Go.Proofs.YtekbbnkkninolaaGreat
set_option linter.unusedVariables false
set_option linter.unusedSimpArgs false
open Go.RowKit

def seekV (ps : List PlaceD) (o : Int) : Int := if validP ps then seekK ps o ps.length else -1

set_option maxRecDepth 100000 in
set_option maxHeartbeats 1000000 in
theorem seekI_any (ps : List PlaceD) (v : Value) (base : Nat) (o : Int) (w : World) (hown : w.ownsRow base 76 2 v ps.length (cellsP ps)) (hl : ps.length ≤ 1048576) :
    Calls Tryz.prog 72 #[v, .int .i64 o] w (Same (.int .i64 (seekV ps o)) w) := by
  obtain ⟨a, ca, rfl, hm, -⟩ := ownsRow_any hown
  cases hv : validP ps
  · have e : Hid (seekV ps o = -1) := by unfold Hid seekV; rw [hv]; rfl
    have cV := fun w h => validI_any ps (.slice a ps.length ca) base w h hl
    rw [hv] at cV
    rw [e.out]
    clear hv
    go_enter Tryz.func72, Tryz.ntmps72
    go_wp2_with fail
    (with_reducible refine (cV _ hown).mono ?_); rintro e w1 ⟨rfl, U1⟩
    go_wp2
    go_ret
    exact ⟨rfl, U1⟩
  · have e : Hid (seekV ps o = seekK ps o ps.length) := by unfold Hid seekV; rw [hv]; rfl
    have cV := fun w h => validI_any ps (.slice a ps.length ca) base w h hl
    rw [hv] at cV
    rw [e.out]
    clear hv
    go_enter Tryz.func72, Tryz.ntmps72
    go_wp2_with fail
    (with_reducible refine (cV _ hown).mono ?_); rintro e w1 ⟨rfl, U1⟩
    go_wp2
    go_loopw [5, 13] (fun f i wr => RelK ps o w1 f i wr) (fun _ i _ => ps.length - (intOf i).toNat)
    case atStart => exact ⟨0, Nat.zero_le _, rfl, rfl, Up.refl _⟩
    case round =>
      obtain ⟨k, hk, rfl, rfl, hup⟩ := hrel
      by_cases hlt : k < ps.length
      · obtain ⟨g, rfl, hc1, hc2, -, hg⟩ := ownsRow_slot hown (by omega)
        obtain ⟨c0, c1⟩ := plc_cells' (read_cells (ownsRow_up (ownsRow_up hown U1) hup)) hlt
        by_cases hp : ps[k].start ≤ o
        · have HS := Lib.hid (seekK_hit hlt hp)
          go_wp2
          go_roundw
          case rel => exact ⟨k + 1, by omega, by go_num, by rw [HS.out], hup.alloc _⟩
          case measure => simp [intOf]; omega
        · have HS := Lib.hid (seekK_miss hlt hp)
          go_wp2
          go_roundw
          case rel => exact ⟨k + 1, by omega, by go_num, by rw [HS.out], hup.alloc _⟩
          case measure => simp [intOf]; omega
      · have e : k = ps.length := by omega
        subst e
        go_wp2
        go_ret
        exact ⟨rfl, U1.trans hup⟩

end Go.Proofs.YtekbbnkkninolaaGreat

/- Plain: a range within the data of a container touches the blocks from that with its first byte to that with its last byte. Conditions: the blocks are those of a container. -/
namespace Go.Proofs.YtekbbnkkninolaaGreat
set_option linter.unusedVariables false
set_option linter.unusedSimpArgs false
open Go.RowKit

theorem sums_lt {l : List BlkD} (hok : accOk l) {i : Nat} (h : i < l.length) : sizeSum (l.take i) < sizeSum (l.take (i + 1)) := by
  have := (hok.2 l[i] (List.getElem_mem h)).1
  rw [sizeSum_take h]; omega
theorem sums_le {l : List BlkD} (hok : accOk l) {i j : Nat} (h : i ≤ j) (hj : j ≤ l.length) : sizeSum (l.take i) ≤ sizeSum (l.take j) := by
  induction j with
  | zero => rw [show i = 0 by omega]; omega
  | succ j ih =>
    rcases Nat.lt_or_ge i (j + 1) with hl | hl
    · have := sums_lt hok (i := j) (by omega)
      have := ih (by omega) (by omega)
      omega
    · rw [show i = j + 1 by omega]; omega
theorem placesK_at {l : List BlkD} {n k : Nat} (h : k < (placesK l n).length) : (placesK l n)[k] = ⟨bytesSum (l.take k), sizeSum (l.take k)⟩ := by
  rw [placesK_length] at h
  have := placesK_get l n k h
  rw [List.getElem?_eq_getElem (by rw [placesK_length]; exact h)] at this
  exact Option.some.inj this
theorem places_valid {l : List BlkD} (hok : accOk l) (hs : sizeSum l ≤ 2000) : validP (placesK l l.length) = true := by
  have hl := placesK_length l l.length
  refine validP_yes (by rw [hl]; exact hok.1) fun i hi => ?_
  have hin : i < l.length := by rw [hl] at hi; exact hi
  cases i with
  | zero =>
    rw [plcB_zero hi, placesK_at hi]
    simp [bytesSum, sizeSum]
  | succ i =>
    rw [plcB_succ hi, placesK_at hi, placesK_at]
    obtain ⟨h1, h2⟩ := sizeSum_bd (accOk_take hok (i + 1))
    obtain ⟨h3, h4⟩ := bytesSum_bd (accOk_take hok (i + 1))
    have h5 := sums_lt hok (i := i) (by omega)
    have h6 := bytesSum_take (l := l) (k := i) (by omega)
    have h7 := sums_le hok (i := i + 1) (j := l.length) (by omega) (Nat.le_refl _)
    rw [List.take_length] at h7
    have h8 : (l.take (i + 1)).length ≤ 40 := by have := hok.1; rw [List.length_take]; omega
    simp only [decide_eq_true_eq]
    omega
theorem find_block {l : List BlkD} (hok : accOk l) {o : Int} (h0 : 0 ≤ o) : ∀ k, k ≤ l.length → o < sizeSum (l.take k) → ∃ f, f < k ∧ sizeSum (l.take f) ≤ o ∧ o < sizeSum (l.take (f + 1)) := by
  intro k
  induction k with
  | zero => intro _ h; simp [sizeSum] at h; omega
  | succ k ih =>
    intro hk h
    rcases Int.lt_or_le o (sizeSum (l.take k)) with hl | hl
    · obtain ⟨f, h1, h2⟩ := ih (by omega) hl
      exact ⟨f, by omega, h2⟩
    · exact ⟨k, by omega, hl, h⟩
theorem seekK_at {l : List BlkD} (hok : accOk l) {o : Int} {f : Nat} (h1 : sizeSum (l.take f) ≤ o) (h2 : o < sizeSum (l.take (f + 1))) : ∀ k, f < k → k ≤ l.length → seekK (placesK l l.length) o k = f := by
  intro k
  induction k with
  | zero => intro h; omega
  | succ k ih =>
    intro hf hk
    have hkl : k < (placesK l l.length).length := by rw [placesK_length]; omega
    rcases Nat.lt_or_ge f k with hl | hl
    · rw [seekK_miss hkl (by rw [placesK_at hkl]; have := sums_le hok (i := f + 1) (j := k) (by omega) (by omega); simp only []; omega)]
      exact ih hl (by omega)
    · have e : f = k := by omega
      subst e
      exact seekK_hit hkl (by rw [placesK_at hkl]; exact h1)
end Go.Proofs.YtekbbnkkninolaaGreat

/- Plain: what is read of a container with places. Conditions: as each says. -/
namespace Go.Proofs.YtekbbnkkninolaaGreat
set_option linter.unusedVariables false
set_option linter.unusedSimpArgs false
open Go Go.RowKit

/-- The data of blocks is as long as they say. -/
def LenOk (f : BlkD → Option (List UInt8)) (l : List BlkD) : Prop := ∀ b ∈ l, ∀ x, f b = some x → (x.length : Int) = b.size
theorem len_dataO {s : SetD} {dict : List UInt8} {b : BlkD} (hf : formB b.num b.raw b.size b.body = true) {x : List UInt8} (h : dataO s dict b = some x) : (x.length : Int) = b.size := by
  unfold dataO at h
  split at h
  · next hr =>
    cases h
    unfold formB at hf
    simp only [Bool.and_eq_true] at hf
    have h2 := hf.2
    rw [if_pos hr] at h2
    rw [ba_len]
    simpa using h2
  · split at h
    · next h3 => cases h; exact h3.2.2
    · cases h
theorem allF_len {f : BlkD → Option (List UInt8)} : ∀ (l : List BlkD) (D : List UInt8), LenOk f l → allF f l = some D → (D.length : Int) = sizeSum l
  | [], D, _, h => by cases h; rfl
  | b :: l, D, hL, h => by
    rw [allF] at h
    cases h1 : f b with
    | none => rw [h1] at h; cases h
    | some x =>
      rw [h1] at h
      cases h2 : allF f l with
      | none => rw [h2] at h; cases h
      | some y =>
        rw [h2] at h; cases h
        have g1 := hL b (List.mem_cons_self ..) x h1
        have g2 := allF_len l y (fun b hb => hL b (List.mem_cons_of_mem _ hb)) h2
        unfold sizeSum at *
        rw [List.map_cons, List.sum_cons, List.length_append]; omega
theorem allF_cut {f : BlkD → Option (List UInt8)} : ∀ (l : List BlkD) (D : List UInt8) (j : Nat), LenOk f l → allF f l = some D → allF f (l.take j) = some (D.take (sizeSum (l.take j)).toNat) ∧ allF f (l.drop j) = some (D.drop (sizeSum (l.take j)).toNat)
  | [], D, j, _, h => by cases h; simp [allF]
  | b :: l, D, 0, _, h => by simp [sizeSum, allF] at h ⊢; exact h
  | b :: l, D, j + 1, hL, h => by
    rw [allF] at h
    cases h1 : f b with
    | none => rw [h1] at h; cases h
    | some x =>
      rw [h1] at h
      cases h2 : allF f l with
      | none => rw [h2] at h; cases h
      | some y =>
        rw [h2] at h; cases h
        have hL' : LenOk f l := fun b hb => hL b (List.mem_cons_of_mem _ hb)
        have g1 := hL b (List.mem_cons_self ..) x h1
        obtain ⟨i1, i2⟩ := allF_cut l y j hL' h2
        have g3 := allF_len (l.take j) _ (fun b hb => hL' b (List.mem_of_mem_take hb)) i1
        have hs : sizeSum (b :: l.take j) = b.size + sizeSum (l.take j) := by simp [sizeSum]
        have hn : (sizeSum (b :: l.take j)).toNat = x.length + (sizeSum (l.take j)).toNat := by rw [hs]; omega
        rw [List.take_succ_cons, List.drop_succ_cons, hn, allF, h1, i1, i2]
        refine ⟨?_, ?_⟩
        · show some (x ++ y.take (sizeSum (l.take j)).toNat) = some ((x ++ y).take (x.length + (sizeSum (l.take j)).toNat))
          rw [List.take_append, List.take_of_length_le (show x.length ≤ x.length + (sizeSum (l.take j)).toNat by omega), Nat.add_sub_cancel_left]
        · rw [List.drop_append]; simp
theorem allF_at {f : BlkD → Option (List UInt8)} {l : List BlkD} {D : List UInt8} (hL : LenOk f l) (hD : allF f l = some D) {i : Nat} (hi : i < l.length) :
    ∃ x, f l[i] = some x ∧ x = (D.drop (sizeSum (l.take i)).toNat).take x.length ∧ sizeSum (l.take i) + x.length = sizeSum (l.take (i + 1)) ∧ 0 ≤ sizeSum (l.take i) := by
  obtain ⟨i1, i2⟩ := allF_cut l D i hL hD
  have g3 := allF_len (l.take i) _ (fun b hb => hL b (List.mem_of_mem_take hb)) i1
  rw [List.drop_eq_getElem_cons hi, allF] at i2
  cases h1 : f l[i] with
  | none => rw [h1] at i2; cases i2
  | some x =>
    rw [h1] at i2
    cases h2 : allF f (l.drop (i + 1)) with
    | none => rw [h2] at i2; cases i2
    | some y =>
      rw [h2] at i2
      have e : x ++ y = D.drop (sizeSum (l.take i)).toNat := Option.some.inj i2
      refine ⟨x, rfl, by rw [← e, List.take_left], ?_, by omega⟩
      rw [sizeSum_take hi, hL _ (List.getElem_mem hi) x h1]

/-- The block to which a place leads, if it is the one asked for. -/
def blkIdx (st : ByteArray) (ps : List PlaceD) (k : Nat) (at' : Int) : Option BlkD := match ps[k]? with
  | none => none
  | some p => if p.start = at' ∧ 0 ≤ p.place ∧ parseOk st p.place.toNat = true ∧ numAt st (p.place.toNat + 2) = k then some (blkAt st p.place.toNat) else none
/-- The data of blocks from place k on till an offset is reached. -/
def needN (f : BlkD → Option (List UInt8)) (st : ByteArray) (ps : List PlaceD) (to : Int) : Nat → Nat → Int → Option (List UInt8)
  | 0, _, at' => if at' < to then none else some []
  | n + 1, k, at' => if at' < to then (blkIdx st ps k at').bind fun b => (f b).bind fun x => (needN f st ps to n (k + 1) (at' + x.length)).map (x ++ ·) else some []
section
variable {f : BlkD → Option (List UInt8)} {st : ByteArray} {ps : List PlaceD} {to : Int} {n k : Nat} {at' : Int}
theorem need_end (h : ¬ at' < to) : needN f st ps to n k at' = some [] := by
  cases n with
  | zero => rw [needN, if_neg h]
  | succ n => rw [needN, if_neg h]
theorem need_out (h : at' < to) (hk : ps.length ≤ k) : needN f st ps to n k at' = none := by
  cases n with
  | zero => rw [needN, if_pos h]
  | succ n => rw [needN, if_pos h, blkIdx, List.getElem?_eq_none hk]; rfl
theorem blkIdx_not {p : PlaceD} (hp : ps[k]? = some p) (h : ¬ (p.start = at' ∧ 0 ≤ p.place ∧ parseOk st p.place.toNat = true ∧ numAt st (p.place.toNat + 2) = k)) : blkIdx st ps k at' = none := by
  unfold blkIdx; rw [hp]; simp only; rw [if_neg h]
theorem blkIdx_yes {p : PlaceD} (hp : ps[k]? = some p) (h : p.start = at' ∧ 0 ≤ p.place ∧ parseOk st p.place.toNat = true ∧ numAt st (p.place.toNat + 2) = k) : blkIdx st ps k at' = some (blkAt st p.place.toNat) := by
  unfold blkIdx; rw [hp]; simp only; rw [if_pos h]
theorem need_none (h : at' < to) (hk : k < ps.length) (hb : blkIdx st ps k at' = none) : needN f st ps to n k at' = none := by
  cases n with
  | zero => rw [needN, if_pos h]
  | succ n => rw [needN, if_pos h, hb]; rfl
theorem need_bad (h : at' < to) {b : BlkD} (hb : blkIdx st ps k at' = some b) (hf : f b = none) : needN f st ps to n k at' = none := by
  cases n with
  | zero => rw [needN, if_pos h]
  | succ n => rw [needN, if_pos h, hb, Option.bind_some, hf]; rfl
theorem need_step (h : at' < to) {b : BlkD} (hb : blkIdx st ps k at' = some b) {x : List UInt8} (hf : f b = some x) : needN f st ps to (n + 1) k at' = (needN f st ps to n (k + 1) (at' + x.length)).map (x ++ ·) := by
  rw [needN, if_pos h, hb, Option.bind_some, hf, Option.bind_some]
theorem need_addO (acc : List UInt8) (h : at' < to) {b : BlkD} (hb : blkIdx st ps k at' = some b) {x : List UInt8} (hf : f b = some x) : addO acc (needN f st ps to (n + 1) k at') = addO (acc ++ x) (needN f st ps to n (k + 1) (at' + x.length)) := by
  rw [need_step h hb hf]
  unfold addO
  cases needN f st ps to n (k + 1) (at' + x.length) <;> simp
end
theorem need_ge {f : BlkD → Option (List UInt8)} {st : ByteArray} {ps : List PlaceD} {to : Int} : ∀ (n k : Nat) (at' : Int) (d : List UInt8), needN f st ps to n k at' = some d → to ≤ at' + d.length
  | 0, k, at', d, h => by
    rw [needN] at h
    split at h
    · cases h
    · cases h; simp; omega
  | n + 1, k, at', d, h => by
    rw [needN] at h
    split at h
    · cases hb : blkIdx st ps k at' with
      | none => rw [hb] at h; cases h
      | some b =>
        rw [hb, Option.bind_some] at h
        cases hf : f b with
        | none => rw [hf] at h; cases h
        | some x =>
          rw [hf, Option.bind_some] at h
          cases hr : needN f st ps to n (k + 1) (at' + x.length) with
          | none => rw [hr] at h; cases h
          | some y =>
            rw [hr] at h; cases h
            have := need_ge n (k + 1) _ y hr
            rw [List.length_append]; omega
    · cases h; simp; omega

theorem take_join {D : List UInt8} {a n m : Nat} : (D.drop a).take n ++ (D.drop (a + n)).take m = (D.drop a).take (n + m) := by
  rw [List.take_add, List.drop_drop]
/-- A range within the data is read. -/
theorem need_full {f : BlkD → Option (List UInt8)} {st : ByteArray} {l : List BlkD} {D : List UInt8} {ps : List PlaceD} {to : Int} (hL : LenOk f l) (hD : allF f l = some D) (hto : to ≤ D.length) (k0 : Nat)
    (hx : ∀ i (h : i < l.length), k0 ≤ i → sizeSum (l.take i) < to → blkIdx st ps i (sizeSum (l.take i)) = some l[i]) : ∀ (n k : Nat), k0 ≤ k → k ≤ l.length → l.length ≤ k + n →
    ∃ m : Nat, needN f st ps to n k (sizeSum (l.take k)) = some ((D.drop (sizeSum (l.take k)).toNat).take m) ∧ to ≤ sizeSum (l.take k) + m ∧ (sizeSum (l.take k)).toNat + m ≤ D.length := by
  have hDl := allF_len l D hL hD
  have hnn : ∀ k, 0 ≤ sizeSum (l.take k) ∧ (sizeSum (l.take k)).toNat ≤ D.length := fun k => by
    obtain ⟨i1, i2⟩ := allF_cut l D k hL hD
    have g3 := allF_len (l.take k) _ (fun b hb => hL b (List.mem_of_mem_take hb)) i1
    rw [List.length_take] at g3
    omega
  intro n
  induction n with
  | zero =>
    intro k h0 hk hn
    have e : k = l.length := by omega
    subst e
    have hge : ¬ sizeSum (l.take l.length) < to := by rw [List.take_length]; omega
    exact ⟨0, by rw [need_end hge]; simp, by omega, by have := (hnn l.length).2; omega⟩
  | succ n ih =>
    intro k h0 hk hn
    by_cases hlt : sizeSum (l.take k) < to
    · have hkl : k < l.length := by
        rcases Nat.lt_or_ge k l.length with h | h
        · exact h
        · rw [List.take_of_length_le h] at hlt; omega
      obtain ⟨x, x1, x2, x3, x4⟩ := allF_at hL hD hkl
      obtain ⟨m, m1, m2, m3⟩ := ih (k + 1) (by omega) (by omega) (by omega)
      have e : (sizeSum (l.take (k + 1))).toNat = (sizeSum (l.take k)).toNat + x.length := by omega
      refine ⟨x.length + m, ?_, by omega, by omega⟩
      rw [need_step hlt (hx k hkl h0 hlt) x1, x3, m1, e, Option.map_some, ← take_join, ← x2]
    · exact ⟨0, by rw [need_end hlt]; simp, by omega, by have := (hnn k).2; omega⟩

/-- What the places of a container lead to. -/
theorem blkIdx_lies {st : ByteArray} {l : List BlkD} (hb : contBlocks st = some l) {i : Nat} (hi : i < l.length) : blkIdx st (placesK l l.length) i (sizeSum (l.take i)) = some l[i] := by
  obtain ⟨q, q1, q2, q3, q4, q5, -⟩ := (cont_lies hb).2.2 i l[i] (List.getElem?_eq_getElem hi)
  rw [← q4]
  have hp := placesK_get l l.length i hi
  have hn : numAt st (q + 2) = i := by rw [← q5, ← q4]; rfl
  have := blkIdx_yes (st := st) (at' := sizeSum (l.take i)) hp ⟨rfl, by simp only; omega, by simp only [← q1, Int.toNat_natCast]; exact q3, by simp only [← q1, Int.toNat_natCast]; exact hn⟩
  simpa only [← q1, Int.toNat_natCast] using this
theorem seekK_lt {ps : List PlaceD} {o : Int} : ∀ (n : Nat), n ≤ ps.length → seekK ps o n = -1 ∨ ∃ (j : Nat) (h : j < ps.length), j < n ∧ seekK ps o n = j ∧ (ps[j]).start ≤ o
  | 0, _ => .inl rfl
  | n + 1, hn => by
    by_cases hp : (ps[n]'(by omega)).start ≤ o
    · exact .inr ⟨n, by omega, by omega, seekK_hit (by omega) hp, hp⟩
    · rw [seekK_miss (by omega) hp]
      rcases seekK_lt (ps := ps) (o := o) n (by omega) with h | ⟨j, h1, h2, h3, h4⟩
      · exact .inl h
      · exact .inr ⟨j, h1, by omega, h3, h4⟩
theorem validP_at {ps : List PlaceD} (h : validP ps = true) : ps.length ≤ 40 ∧ ∀ j (hj : j < ps.length), 0 ≤ (ps[j]).place ∧ (ps[j]).place ≤ 4000 ∧ 0 ≤ (ps[j]).start ∧ (ps[j]).start ≤ 2000 := by
  unfold validP at h
  rw [Bool.and_eq_true, decide_eq_true_eq, List.all_eq_true] at h
  refine ⟨h.1, fun j hj => ?_⟩
  have := h.2 j (List.mem_range.2 hj)
  unfold plcB at this
  rw [List.getElem?_eq_getElem hj] at this
  simp only [Bool.and_eq_true, decide_eq_true_eq] at this
  exact this.1
/-- What ReadIndexed reads behind its checks. -/
def fromN (f : BlkD → Option (List UInt8)) (st : ByteArray) (ps : List PlaceD) (a b : Int) (k : Nat) (z : Int) : Option (List UInt8) :=
  (needN f st ps b (ps.length - k) k z).map fun d => (d.drop (a - z).toNat).take ((b - z).toNat - (a - z).toNat)
def idxR (f : BlkD → Option (List UInt8)) (st : ByteArray) (ps : List PlaceD) (a b : Int) : Option (List UInt8) :=
  if a = b then some [] else if seekK ps a ps.length < 0 then none else fromN f st ps a b (seekK ps a ps.length).toNat ((ps.getD (seekK ps a ps.length).toNat ⟨0, 0⟩).start)
def idxOk (fit : Bool) (st : ByteArray) (ps : List PlaceD) (a b : Int) : Bool := fit && (validP ps && (decide (st.size ≤ 4000) && (inB a 0 b && inB b 0 2000)))
def idxO (f : BlkD → Option (List UInt8)) (fit : Bool) (st : ByteArray) (ps : List PlaceD) (a b : Int) : Option (List UInt8) := if idxOk fit st ps a b then idxR f st ps a b else none

end Go.Proofs.YtekbbnkkninolaaGreat

/- Walks of the reference's l5Needed and ReadIndexed. Conditions: the places can be read; the strings are no longer than 2^30 bytes. -/
namespace Go.Proofs.YtekbbnkkninolaaGreat
set_option linter.unusedVariables false
set_option linter.unusedSimpArgs false
open Go Go.RowKit

structure NdAt (T : Option (List UInt8)) (s : SetD) (dict : List UInt8) (st : ByteArray) (ps : List PlaceD) (to : Int) (w : World) (k m : Nat) (acc : List UInt8) (z : Int) (wr : World) : Prop where
  fu : k + m = ps.length
  tot : addO acc (needN (dataO s dict) st ps to m k z) = T
  z0 : 0 ≤ z
  z1 : z ≤ 2000 + 64 * k
  al : acc.length ≤ 64 * k
  set : SetAt w.heap.size s.ord s.lit s.most wr
  up : Up w wr
theorem parse_bd {st : ByteArray} {p : Nat} (h : parseOk st p = true) : 1 ≤ (blkAt st p).size ∧ (blkAt st p).size ≤ 64 ∧ (blkAt st p).body.size ≤ 64 := by
  obtain ⟨-, h2, h3⟩ := formB_bd (parseOk_form h).2.2
  exact ⟨h2.1, h2.2, h3⟩

end Go.Proofs.YtekbbnkkninolaaGreat

