/- Walk of the program's makeBlocks. Conditions: what is known is valid and can be read; the data is no longer than 2000 bytes. -/
import Derived.Test.YtnbmkoapohjnmaaGreatWg
namespace Go.Proofs.YtnbmkoapohjnmaaGreat
set_option linter.unusedVariables false
set_option linter.unusedSimpArgs false
open Go Go.RowKit

/-- The blocks of data, all with the number 0. -/
def blksN (k : KnD) (size : Nat) : Nat → List UInt8 → List BlkD
  | 0, _ => []
  | n + 1, d => if d = [] then [] else mkB (compO k (d.take size)) (bs (d.take size)) :: blksN k size n (d.drop size)
theorem blksN_nil (k : KnD) (size n : Nat) : blksN k size n [] = [] := by cases n <;> simp [blksN]
theorem blksN_step {k : KnD} {size n : Nat} {d : List UInt8} (hd : d ≠ []) : blksN k size (n + 1) d = mkB (compO k (d.take size)) (bs (d.take size)) :: blksN k size n (d.drop size) := by rw [blksN, if_neg hd]
theorem mkB_bd (o : Option (List UInt8)) (d : ByteArray) : (mkB o d).num = 0 ∧ (mkB o d).size = d.size ∧ (mkB o d).body.size ≤ d.size := by
  unfold mkB
  split
  · split
    · exact ⟨rfl, rfl, by rw [bs_size]; omega⟩
    · exact ⟨rfl, rfl, Nat.le_refl _⟩
  · exact ⟨rfl, rfl, Nat.le_refl _⟩
/-- A new slice of one block. -/
def NewB (row : Option Nat) (b : BlkD) (v : Value) (w : World) : Prop := ∃ x, v = .slice (some ⟨x, 0, none⟩) 1 1 ∧ some x ≠ row ∧ w.heap[x]? = some (.cells (blkC b).toArray 63)
theorem newB_closed {row : Option Nat} {b : BlkD} : ∀ (v : Value) (w w' : World), NewB row b v w → w.grownBy w' row → NewB row b v w' := fun v w w' ⟨x, h1, h2, h3⟩ hg => ⟨x, h1, h2, gbox hg h3 h2⟩
theorem newB_cells {w : World} {x : Nat} {b : BlkD} (h : w.heap[x]? = some (.cells (blkC b).toArray 63)) : ∀ j u, (blkC b)[j]? = some u → w.cell? ((⟨x, 0, none⟩ : Addr).add j) = some u := by
  intro j u hu
  have hadd : (⟨x, 0, none⟩ : Addr).add j = ⟨x, j, none⟩ := by unfold Addr.add; split <;> simp_all
  rw [hadd, box_cell h]
  simpa using hu
abbrev ownB (w : World) (base : Nat) (v : Value) (l : List BlkD) : Prop := w.ownsRow base 63 4 v l.length (cellsB l)
structure MbAt (T : List BlkD) (k : KnD) (v : Value) (size : Nat) (L : List UInt8) (w : World) (f m : Nat) (acc : List BlkD) (vb : Value) (wr : World) : Prop where
  tot : acc ++ blksN k size m (L.drop f) = T
  len : (L.drop f).length ≤ m
  fl : f ≤ 4096
  al : acc.length ≤ f
  kn : KnAt w.heap.size k v wr
  own : ownB wr (w.heap.size + 1) vb acc
  up : Up w wr
def RelMb (T : List BlkD) (k : KnD) (v : Value) (size : Nat) (L : List UInt8) (w : World) (vb i : Value) (wr : World) : Prop := ∃ (f m : Nat) (acc : List BlkD), i = .int .i64 f ∧ MbAt T k v size L w f m acc vb wr

set_option maxRecDepth 100000 in
set_option maxHeartbeats 8000000 in
theorem makeBlocksI_any (k : KnD) (v : Value) (lo : Nat) (L : List UInt8) (size : Nat) (w : World) (h : k.Ok) (hv : k.last = -1 → k.base = k.ps.length) (hr : RdP lo w v k.ps) (hL : L.length ≤ 2000) (hs1 : 1 ≤ size) (hs2 : size ≤ 64) :
    Calls Tryz.prog 25  #[kV k v, .string (bs L), .int .i64 size] w (fun e w' => ∃ vb, e = .returned vb ∧ ownB w' w.heap.size vb (blksN k size L.length L) ∧ Up w w') := by
  obtain ⟨i0, hi, hz0, hz1, hz2⟩ := info_parts infoBlock
  have cM := fun wx (d : ByteArray) hr hd => makeBI_any k v lo d wx h hv hr hd
  have hrt := fun (wq : World) (hu : Up w wq) => hr.up hu
  obtain ⟨T, HT⟩ : ∃ T, Hid (blksN k size L.length L = T) := ⟨_, rfl⟩
  rw [HT.out]
  have hbz := bs_size L
  obtain ⟨a, cap, rfl, -, -, -, -⟩ := hr
  clear h hv
  simp only [kV] at *
  go_enter Tryz.func25, Tryz.ntmps25
  go_wp2
  go_loopw [7, 8] (fun vb i wr => RelMb T k (.slice a k.ps.length cap) size L w vb i wr) (fun _ i _ => L.length - (intOf i).toNat)
  case atStart => exact ⟨0, L.length, [], rfl, ⟨by rw [List.drop_zero]; exact HT.out, by simp, by omega, by simp, (MapKept.heap_alloc w _).1, World.ownsRow_nil _ _ _ _, by (repeat (first | with_reducible exact Up.refl _ | with_reducible assumption | with_reducible refine Up.set ?_ (by first | exact Nat.le_refl _ | (simp only []; omega) | (simp; omega)) _ | with_reducible refine Up.alloc ?_ _ | with_reducible refine Up.drew ?_ | refine Up.trans ?_ (by with_reducible assumption)))⟩⟩
  case round =>
    obtain ⟨f, m, acc, rfl, hM⟩ := hrel
    obtain ⟨ab, cb, rfl⟩ := ownsRow_shape hM.own
    have HM := Lib.hid hM
    have hfl := hM.fl
    have hal := hM.al
    obtain ⟨hb0, r0, r1, r2, r3, r4, r5⟩ := hM.kn.cells
    have hlm := hM.len
    rw [List.length_drop] at hlm
    clear hM
    by_cases hlt : f < L.length
    · have hne : L.drop f ≠ [] := fun e => by rw [List.drop_eq_nil_iff] at e; omega
      obtain ⟨m', rfl⟩ : ∃ m', m = m' + 1 := ⟨m - 1, by omega⟩
      have hmn : min (f + size) L.length = f + min size (L.length - f) := by omega
      have hsub : (bs L).extract f (min ((f : Int) + (size : Int)) (L.length : Int)).toNat = bs ((L.drop f).take size) := by
        rw [show (min ((f : Int) + (size : Int)) (L.length : Int)).toNat = min (f + size) L.length by omega, bs_ext]
        congr 1
        rw [List.take_eq_take_iff, List.length_drop]
        omega
      have HSUB := Lib.hid hsub
      have htl : ((L.drop f).take size).length ≤ 64 := by rw [List.length_take]; omega
      have cM2 := fun wx hr => cM wx (bs ((L.drop f).take size)) hr (by rw [bs_size]; omega)
      rw [bs_data] at cM2
      obtain ⟨n1, n2, n3⟩ := mkB_bd (compO k ((L.drop f).take size)) (bs ((L.drop f).take size))
      have HTT : Hid (acc ++ mkB (compO k ((L.drop f).take size)) (bs ((L.drop f).take size)) :: blksN k size m' (L.drop (f + size)) = T) := by
        have := HM.out.tot
        rw [blksN_step hne, List.drop_drop] at this
        exact this
      generalize mkB (compO k ((L.drop f).take size)) (bs ((L.drop f).take size)) = B at *
      rw [← HSUB.out] at cM2
      obtain ⟨bn, br, bz, bb⟩ := B
      have hmin : (min (f + size) L.length : Nat) ≤ 4096 := by omega
      simp only [blkV] at cM2
      clear n1 n2 n3 hsub htl cM hmn hlm hne
      go_wp2
      refine wp_region_own 14 13 (Value.ownBlock (.slice ab acc.length cb)) (by kernel_rfl) (by kernel_rfl) ?_
      simp only [List.take, List.drop]
      repeat (refine wpG_step (fun K hK => ?_); go_simp; (try simp only [↓IntWalk.iteOmega]); first
        | (refine hK _ _ ?_; clear hK K)
        | (refine stepG_own (by rfl) (by kernel_rfl) ((fun v w' => w'.ownsRow (w.heap.size + 1) 63 4 v (acc.length + 1) (cellsB acc ++ blkC ⟨bn, br, bz, bb⟩))) ((fun v w w' h hu => ownsRow_up h hu)) (fun wq hwq => ?_) ?_
           · ((repeat (first | refine fills_no (by rfl) ?_ | refine fills_yes (by rfl) (fun vq hvq => ?_))); simp only [List.filter_nil, fills]; (obtain ⟨bq, eqb, nb, hcb⟩ := hvq; exact gAt_append (.tmp 16) (.tmp 28) 50 (by rfl) (w.heap.size + 1) 63 i0 (.agg #[.int .i64 0, .bool false, .int .i64 0, .string ⟨#[]⟩]) 4 40 Tryz.underlying50 hi hz0 hz1 hz2 rfl (by decide) (.slice ab acc.length cb) acc.length (cellsB acc) (by rfl) (ownsRow_up HM.out.own hwq) ⟨bq, 0, none⟩ 1 1 (blkC ⟨bn, br, bz, bb⟩) (by exact eqb) rfl (newB_cells hcb) (blkC_one _) (by unfold maxLen; omega) (by omega) (by have := hwq.size; omega) _ rfl))
           refine hK _ _ ?_; clear hK K)
        | (refine stepG_c (by rfl) ?_ ?_ ?_
           rotate_left
           · intro wq hwq; (have hbq := gcell hwq; (repeat (first | refine fills_no (by rfl) ?_ | refine fills_yes (by rfl) (fun vq hvq => ?_))); simp only [List.filter_nil, fills]; unfold upAt; (try ((obtain ⟨-, r0, r1, r2, r3, r4, r5⟩ := KnAt.cells (HM.out.kn.gr hwq (low_ne (w := w) HM.out.own (by omega)))))); go_simp; (try go_bits); (try simp only [↓IntWalk.iteOmega]); (try (rw [dif_pos (by omega)]; go_simp; try go_bits)); first | exact upOut_value | (apply upOut_call; (go_at_call 48; with_reducible exact cM2 _ (hrt _ (Up.grown HM.out.up hwq (fun y hy => by have := (HM.out.own.lt y hy).1; omega))))) | (apply upOut_eq; (go_at_call 48; with_reducible exact cM2 _ (hrt _ (Up.grown HM.out.up hwq (fun y hy => by have := (HM.out.own.lt y hy).1; omega))))))
           go_simp; refine hK _ _ ?_; clear hK K)
        | (refine stepG_m (by rfl) (by kernel_rfl) (NewB (Value.ownBlock (.slice ab acc.length cb)) ⟨bn, br, bz, bb⟩) (newB_closed) (fun wq hwq => ?_) ?_
           · (have hbq := gcell hwq; (repeat (first | refine fills_no (by rfl) ?_ | refine fills_yes (by rfl) (fun vq hvq => ?_))); simp only [List.filter_nil, fills]; unfold upAt; (try ((obtain ⟨-, r0, r1, r2, r3, r4, r5⟩ := KnAt.cells (HM.out.kn.gr hwq (low_ne (w := w) HM.out.own (by omega)))))); go_simp; (try go_bits); (try simp only [↓IntWalk.iteOmega]); (try (rw [dif_pos (by omega)]; go_simp; try go_bits)); exact upOut_make ((Up.refl _).alloc _) ⟨_, rfl, own_ne HM.out.own hwq.size, (MapKept.heap_alloc _ _).1⟩)
           refine hK _ _ ?_; clear hK K))
      refine wpG_nil (by rfl) (fun wq hwq => ?_)
      simp only [fills]
      rintro v11 h11 v10 -
      obtain ⟨a3, c3, rfl⟩ := ownsRow_shape h11
      have hk9 := HM.out.kn.gr hwq (low_ne (w := w) HM.out.own (by omega))
      have hu9 := Up.grown HM.out.up hwq (fun y hy => by have := (HM.out.own.lt y hy).1; omega)
      have H9 := Lib.hid (And.intro hk9 (And.intro hu9 h11))
      clear hk9 hu9 h11 hwq
      go_wp2
      go_roundw
      case rel => exact ⟨f + size, m', acc ++ [⟨bn, br, bz, bb⟩], by go_num, ⟨by rw [← HTT.out, List.append_assoc]; rfl, by have := HM.out.len; rw [List.length_drop] at *; omega, by omega, by simp; omega, H9.out.1, by unfold ownB; rw [cellsB_snoc, List.length_append]; exact H9.out.2.2, H9.out.2.1⟩⟩
      case measure => simp [intOf]; omega
    · have HE : Hid (acc = T) := by
        have := HM.out.tot
        rw [List.drop_of_length_le (by omega), blksN_nil, List.append_nil] at this
        exact this
      go_wp2
      go_ret
      exact ⟨_, rfl, by rw [← HE.out]; exact ownsRow_base HM.out.own (Nat.le_succ _), HM.out.up⟩

end Go.Proofs.YtnbmkoapohjnmaaGreat
