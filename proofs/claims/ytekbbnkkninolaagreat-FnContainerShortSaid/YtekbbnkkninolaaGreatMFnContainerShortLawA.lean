/- Texts joined into one: the walks and laws that the last text leans on. Conditions: as each says. -/
import Derived.Test.YtekbbnkkninolaaGreatDraw6
import Derived.Test.YtekbbnkkninolaaGreatSets
import Derived.Test.YtekbbnkkninolaaGreatBa
import Derived.Test.YtekbbnkkninolaaGreatEqs
import Derived.Test.YtekbbnkkninolaaGreatTree5
import Derived.Test.YtekbbnkkninolaaGreatTree6
import Derived.Test.YtekbbnkkninolaaGreatFu
import Derived.Test.YtekbbnkkninolaaGreatTree4
import Derived.Test.YtekbbnkkninolaaGreatGw
import Derived.Test.YtekbbnkkninolaaGreatWd
import Derived.Test.YtekbbnkkninolaaGreatGlen
import Derived.Test.YtekbbnkkninolaaGreatComp
import Derived.Test.YtekbbnkkninolaaGreatWc
import Derived.Test.YtekbbnkkninolaaGreatBlkOf
import Derived.Shelf.Strings.Builder1
import Derived.Test.YtekbbnkkninolaaGreatShelf
import Derived.Test.YtekbbnkkninolaaGreatRn
import Derived.Test.YtekbbnkkninolaaGreatCopy
import Derived.Test.YtekbbnkkninolaaGreatPlaces
import Derived.Test.YtekbbnkkninolaaGreatRc2
import Derived.Test.YtekbbnkkninolaaGreatRt

/- Walks of the reference's draws of a block, from the bytes of an input. Conditions: the bytes can be read. -/
namespace Go.Proofs.YtekbbnkkninolaaGreat
set_option linter.unusedVariables false
set_option linter.unusedSimpArgs false
open Go Go.RowKit

/-- Bytes that are handed in. -/
def ArgU (w : World) (v : Value) (l : List UInt8) : Prop := ∃ (a : Option Addr) (cap : Nat), v = .slice a l.length cap ∧ l.length ≤ cap ∧ cap ≤ maxLen ∧
  (0 < l.length → ∃ b off, a = some ⟨b, off, none⟩ ∧ b < w.heap.size ∧ ∀ i x, l[i]? = some x → w.cell? ⟨b, off + i, none⟩ = some (.int .u8 x.toNat))
theorem ArgU.up {w w' : World} {v : Value} {l : List UInt8} (h : ArgU w v l) (hu : Up w w') : ArgU w' v l := by
  obtain ⟨a, cap, h1, h2, h3, h4⟩ := h
  refine ⟨a, cap, h1, h2, h3, fun hp => ?_⟩
  obtain ⟨b, off, e1, e2, e3⟩ := h4 hp
  exact ⟨b, off, e1, Nat.lt_of_lt_of_le e2 (Below.size hu), fun i x hi => (Below.cell (p := ⟨b, off + i, none⟩) hu e2).trans (e3 i x hi)⟩
theorem open_at {w : World} {v : Value} {l : List UInt8} (h : ArgU w v l) : Calls Tryz.prog 77  #[v] w (fun e w' => ∃ B, e = .returned (.pointer (some ⟨w.heap.size, 0, none⟩)) ∧ Rdr w.heap.size B w' 0 ∧ Up w w') := by
  obtain ⟨a, cap, h1, h2, h3, h4⟩ := h
  exact open_any v l w a cap h1 h2 h3 h4
end Go.Proofs.YtekbbnkkninolaaGreat

/- Texts joined into one: Eqb, Law. Conditions: as each says. -/

/- Walks of the laws' helpers that take a setting over and compare blocks. Conditions: none. -/
namespace Go.Proofs.YtekbbnkkninolaaGreat
set_option linter.unusedVariables false
set_option linter.unusedSimpArgs false
open Go Go.RowKit

end Go.Proofs.YtekbbnkkninolaaGreat

/- The end of every law's row: the call answers true and nothing that was there has turned. Conditions: those of post_law. -/
namespace Go.Proofs.YtekbbnkkninolaaGreat
set_option linter.unusedVariables false
set_option linter.unusedSimpArgs false
open Go.ChangeShapes Go.WideShapes Go.ChangeAt Go.RowKit

theorem TryzlaidOut : laidOutB Tryz.prog = true := by kernel_rfl
theorem own : ownKnob Tryz.prog.godebug = none := by kernel_rfl

theorem trodAll_up {H : Type} {enc : TypeId × Value → H} {P : Program} (hl : laidOutB P = true) {W W' : World} (hb : Below W.heap.size W W') : ∀ (ts : List TypeId) (vs : List Value) (ds : List (DataW H)) (ps : List MemPlace),
    (∀ t ∈ ts, P.readableRec t = true ∧ t < P.types.size) → (∀ x ∈ ps, x.block < W.heap.size) → DataW.TrodAll enc P W 0 (fun _ => true) true ts vs ds ps → DataW.TrodAll enc P W' 0 (fun b => decide (b < W.heap.size)) true ts vs ds ps
  | [], [], [], _, _, _, h => h
  | t :: ts, v :: vs, d :: ds, ps, ht, hp, h => by
    obtain ⟨p, q, h1, h2, rfl⟩ := h
    refine ⟨p, q, Below.trod hl (ht t (List.mem_cons_self ..)).1 (ht t (List.mem_cons_self ..)).2 h1 hb fun x hx => hp x (List.mem_append_left _ hx), ?_, rfl⟩
    exact trodAll_up hl hb ts vs ds q (fun t h => ht t (List.mem_cons_of_mem _ h)) (fun x hx => hp x (List.mem_append_right _ hx)) h2
  | [], _ :: _, _, _, _, _, h => h.elim
  | _ :: _, [], _, _, _, _, h => h.elim
  | [], [], _ :: _, _, _, _, h => h.elim
  | _ :: _, _ :: _, [], _, _, _, h => h.elim

theorem post_law {H : Type} {enc : TypeId × Value → H} {P : Program} {f : Func} {s : ChangeSpec} {W W' : World} {args : Array Value} {ds gs : List (DataW H)} {before : List MemPlace} {tb : TypeId}
    (hl : laidOutB P = true) (hp : (f.params.all fun t => P.readableRec t && decide (t < P.types.size)) = true) (hrt : f.resultTypes = #[tb]) (htb : P.underlying tb = some .bool) (hvars : s.vars = [])
    (hW : DataW.Whole enc P f.params.toList s.vars false W args.toList ds gs before) (hs : ∀ ds' : List (DataW H), ds' = ds → (s.fn H ds').results = [.lit (.bool true)] ∧ (s.fn H ds').args = ds ∧ (s.fn H ds').vars = []) (hb : Up W W') :
    s.post enc P f false true false false W args (.bool true) W' := by
  have hlt := fun p hp => hW.lt (p := p) hp
  obtain ⟨p, q, hA, hV, rfl, hz, hn⟩ := id hW
  rw [hvars] at hV
  obtain ⟨rfl, rfl⟩ := trodVars_none hV
  obtain ⟨e1, e2, e3⟩ := hs (ds ++ []) (by simp)
  refine ⟨ds, [], p ++ [], [], p, [], hW, ?_, ?_, ?_, ?_, fun h => by cases h⟩
  · rw [e1, hrt]
    exact trodAll_mk1 (shut_bool htb true)
  · rw [e2]
    refine trodAll_up hl hb _ _ _ _ (fun t ht => ?_) (fun x hx => hlt x (by simpa using hx)) hA
    have := Array.all_eq_true_iff_forall_mem.1 hp t (by simpa using ht)
    simpa using this
  · rw [e3, hvars]
    rfl
  · exact hb.frame _

end Go.Proofs.YtekbbnkkninolaaGreat

/- Arguments that are slices of bytes, and a string repeated. Conditions: as each says. -/
namespace Go.Proofs.YtekbbnkkninolaaGreat
set_option linter.unusedVariables false
set_option linter.unusedSimpArgs false
open Go.ChangeShapes Go.WideShapes Go.ChangeAt Go.RowKit Go.Joins
open Go.ChangeMaps (open_string shut_string)

theorem open_argU {H : Type} {enc : TypeId × Value → H} {W : World} {fuel : Nat} {a0 : Option Addr} {len cap : Nat} {d : DataW H} {p : List MemPlace}
    (h : DataW.trod enc Tryz.prog W 0 (fun _ => true) true fuel 38 [.slice a0 len cap] = some (d, p)) (hlt : ∀ x ∈ p, x.block < W.heap.size) : ∃ l, ArgU W (.slice a0 len cap) l := by
  rcases open_ints Tryz.underlying38 Tryz.underlying5 (by kernel_rfl) h with ⟨hcs, hx⟩ | ⟨a, len', cap', zs, hcs, _, hl, hm, hz, hx, hcell, hwz⟩
  · simp only [List.cons.injEq, and_true] at hcs
    cases hcs
    exact ⟨[], none, 0, rfl, Nat.le_refl _, by unfold maxLen; omega, fun h => absurd h (Nat.lt_irrefl _)⟩
  · simp only [List.cons.injEq, and_true] at hcs
    cases hcs
    simp only [Prod.mk.injEq] at hx
    obtain ⟨rfl, rfl⟩ := hx
    simp only [if_true] at hz
    have hlen : ((zs.take len).map fun n => UInt8.ofNat n.toNat).length = len := by simp; omega
    refine ⟨(zs.take len).map fun n => UInt8.ofNat n.toNat, some a, cap, by rw [hlen], by rw [hlen]; exact hl, hm, fun hp => ?_⟩
    rw [hlen] at hp
    obtain ⟨b, off, spot⟩ := a
    have hspot : spot = none := by simpa [Addr.add] using World.cell?_spot (hcell 0 (by omega))
    subst hspot
    refine ⟨b, off, rfl, hlt (.cell b off) (by simp only [MemPlace.row, List.mem_map, List.mem_range]; exact ⟨0, by omega, rfl⟩), fun i x hi => ?_⟩
    have hil : i < len := by
      have := (List.getElem?_eq_some_iff.1 hi).1
      rw [hlen] at this; exact this
    have hcj := hcell i (by omega)
    rw [Addr.add_lit] at hcj
    rw [hcj]
    have hb := range_u8 hwz i
    have e : zs.getD i 0 = zs[i]'(by omega) := by simp [List.getD, List.getElem?_eq_getElem (show i < zs.length by omega)]
    rw [List.getD_eq_getElem?_getD] at e ⊢
    rw [e] at hb ⊢
    have hx : x = UInt8.ofNat (zs[i]'(by omega)).toNat := by
      have : i < zs.length := by omega
      simp [List.getElem?_take, hil, this] at hi
      exact hi.symm
    rw [hx]
    congr 2
    simp only [UInt8.toNat_ofNat']
    omega

end Go.Proofs.YtekbbnkkninolaaGreat

/- Walks of the laws' own functions on slices of places and of blocks: marks, and the look at them. Conditions: the rows are owned; the numbers are small. -/
namespace Go.Proofs.YtekbbnkkninolaaGreat
set_option linter.unusedVariables false
set_option linter.unusedSimpArgs false
open Go.RowKit

theorem set2 (A B : List Value) (c d x y : Value) (m : Nat) (h : A.length = m) : ((A ++ ([c, d] ++ B)).set m x).set (m + 1) y = A ++ ([x, y] ++ B) := by
  subst h
  rw [List.set_append_right _ _ (Nat.le_refl _), List.set_append_right _ _ (by omega)]
  simp
end Go.Proofs.YtekbbnkkninolaaGreat

/- Walks of IndexOf, the program's and the reference's. Conditions: the string's length is below 2^30. -/
namespace Go.Proofs.YtekbbnkkninolaaGreat
set_option linter.unusedVariables false
set_option linter.unusedSimpArgs false
open Go.RowKit

def midQ (l : List BlkD) (k : Nat) : List PlaceD := placesK l k ++ List.replicate (l.length - k) ⟨0, 0⟩
theorem midQ_all (l : List BlkD) : midQ l l.length = placesK l l.length := by simp [midQ]
theorem midQ_at (l : List BlkD) (k : Nat) (h : k < l.length) : (midQ l k)[k]? = some ⟨0, 0⟩ := by
  rw [midQ, List.getElem?_append_right (by rw [placesK_length]; exact Nat.le_refl _), placesK_length, Nat.sub_self, List.getElem?_replicate, if_pos (by omega)]
theorem midQ_set (l : List BlkD) (k : Nat) (h : k < l.length) : ((cellsP (midQ l k)).set (k * 2) (.int .i64 (bytesSum (l.take k)))).set (k * 2 + 1) (.int .i64 (sizeSum (l.take k))) = cellsP (midQ l (k + 1)) := by
  have e : List.replicate (l.length - k) (⟨0, 0⟩ : PlaceD) = ⟨0, 0⟩ :: List.replicate (l.length - (k + 1)) ⟨0, 0⟩ := by
    rw [show l.length - k = (l.length - (k + 1)) + 1 by omega]; rfl
  rw [midQ, midQ, e, placesK_succ]
  simp only [cellsP, List.flatMap_append, List.flatMap_cons, List.flatMap_nil, List.append_nil, List.append_assoc]
  exact set2 _ _ _ _ _ _ _ (by have := cellsP_length (placesK l k); rw [placesK_length] at this; exact this)
theorem cellsP_zero (n : Nat) : cellsP (List.replicate n ⟨0, 0⟩) = List.replicate (n * 2) (.int .i64 0) := by
  induction n with
  | zero => rfl
  | succ n ih =>
    rw [List.replicate_succ]
    show plcC ⟨0, 0⟩ ++ cellsP (List.replicate n ⟨0, 0⟩) = _
    rw [ih, show (n + 1) * 2 = n * 2 + 1 + 1 by omega, List.replicate_succ, List.replicate_succ]; rfl
theorem made_zero (m : Nat) : (madeCells #[.int .i64 0, .int .i64 0] m).toList = List.replicate m (.int .i64 0) := by
  rw [List.eq_replicate_iff]
  refine ⟨by simp [madeCells], fun b hb => ?_⟩
  simp only [madeCells, Array.toList_map, List.mem_map] at hb
  obtain ⟨i, _, rfl⟩ := hb
  have : i % 2 = 0 ∨ i % 2 = 1 := by omega
  rcases this with e | e <;> simp [e]
theorem made_row (w : World) (base n : Nat) (hb : base ≤ w.heap.size) (hm : n ≤ maxLen) : (w.alloc (.cells (madeCells #[.int .i64 0, .int .i64 0] (n * 2)) 76)).ownsRow base 76 2 (.slice (some ⟨w.heap.size, 0, none⟩) n n) n (cellsP (List.replicate n ⟨0, 0⟩)) := by
  refine ⟨by rw [cellsP_zero]; simp, .inr ⟨_, _, _, rfl, hb, (MapKept.heap_alloc w _).1, Nat.le_refl _, hm, by simp [madeCells], ?_⟩⟩
  rw [made_zero, cellsP_zero, List.take_of_length_le (by simp)]
theorem ownsRow_other {w : World} {base : Nat} {e : TypeId} {size n : Nat} {xs : List Value} {g cap : Nat} (h : w.ownsRow base e size (.slice (some ⟨g, 0, none⟩) n cap) n xs) {p : Addr} (hp : g ≠ p.block) (u : Value) : (w.setCell p u).ownsRow base e size (.slice (some ⟨g, 0, none⟩) n cap) n xs := by
  refine ⟨h.1, ?_⟩
  rcases h.2 with ⟨hn, _⟩ | ⟨g', cap', cur, hv, hb, hg, rest⟩
  · cases hn
  · cases hv
    exact .inr ⟨g, cap, cur, rfl, hb, by rw [Below.heap_setCell _ _ _ _ hp]; exact hg, rest⟩
theorem box_other {w : World} {b : Nat} {o : Obj} (h : w.heap[b]? = some o) {p : Addr} (hp : b ≠ p.block) (u : Value) : (w.setCell p u).heap[b]? = some o := by
  rw [Below.heap_setCell _ _ _ _ hp]; exact h

/-- What IndexOf leaves. -/
def IndexPost (s : ByteArray) (w : World) (e : Ending) (w' : World) : Prop := ∃ v, e = .returned (.tuple #[v, .bool (contBlocks s).isSome]) ∧ w'.ownsRow w.heap.size 76 2 v (placesK ((contBlocks s).getD []) ((contBlocks s).getD []).length).length (cellsP (placesK ((contBlocks s).getD []) ((contBlocks s).getD []).length)) ∧ Up w w'

def RelI (l : List BlkD) (w1 : World) (i : Value) (wr : World) : Prop := ∃ k : Nat, k ≤ l.length ∧ i = .int .i64 k ∧ Up w1 wr ∧ wr.ownsRow w1.heap.size 76 2 (.slice (some ⟨w1.heap.size, 0, none⟩) l.length l.length) l.length (cellsP (midQ l k)) ∧ wr.heap[w1.heap.size + 1]? = some (.cells #[.int .i64 (bytesSum (l.take k)), .int .i64 (sizeSum (l.take k))] 76)

set_option maxRecDepth 100000 in
set_option maxHeartbeats 2000000 in
theorem indexI_any (s : ByteArray) (w : World) (hs : s.size ≤ 1073741824) :
    Calls Tryz.prog 56 #[.string s] w (IndexPost s w) := by
  obtain ⟨i0, hi0, hz0, hz1, hz2⟩ := info_parts infoPlace
  unfold IndexPost
  cases hc : contBlocks s with
  | none =>
    have cP := contI_none hc hs
    clear hc
    go_enter Tryz.func56, Tryz.ntmps56
    go_wp2_with (go_at_call 54; (with_reducible refine (cP _).mono ?_); rintro e w1 ⟨v, rfl, hown, U1⟩)
    go_ret2
    exact ⟨_, rfl, World.ownsRow_nil _ _ _ _, U1⟩
  | some l =>
    have cP := contI_some hc hs
    have hok := contBlocks_ok hc
    have hl40 := hok.1
    clear hc
    have hmk : ∀ w : World, (Instr.makeSlice 34 (.int .i64 (l.length : Int)) (.int .i64 (l.length : Int))).run Tryz.prog w = .ok (.slice (some ⟨w.heap.size, 0, none⟩) l.length l.length) (w.alloc (.cells (madeCells #[.int .i64 0, .int .i64 0] (l.length * 2)) 76)) := fun w => by
      have := run_make (P := Tryz.prog) w 34 76 i0 _ Tryz.underlying34 hi0 hz0 .i64 .i64 l.length l.length (by omega) (Int.le_refl _) (by rw [hz2]; omega) (by omega)
      rw [hz1] at this
      simpa [Value.cells] using this
    clear hz0 hz1 hz2 hi0
    go_enter Tryz.func56, Tryz.ntmps56
    go_wp2_with (go_at_call 54; (with_reducible refine (cP _).mono ?_); rintro e w1 ⟨v, rfl, hownB, U1⟩; obtain ⟨a, cap, rfl, hm, hsome⟩ := ownsRow_any hownB)
    go_loopw [23] (fun i wr => RelI l w1 i wr) (fun i _ => l.length - (intOf i).toNat)
    case atStart => exact ⟨0, Nat.zero_le _, rfl, ((Up.refl _).alloc _).alloc _, by simpa [midQ, placesK] using (made_row w1 w1.heap.size l.length (Nat.le_refl _) hm).alloc _, by simpa [bytesSum, sizeSum] using (MapKept.heap_alloc (w1.alloc (.cells (madeCells #[.int .i64 0, .int .i64 0] (l.length * 2)) 76)) _).1⟩
    case round =>
      obtain ⟨k, hk, rfl, hup, ho, hbx⟩ := hrel
      have hsz := hup.size
      have hlen : (l.take k).length ≤ 40 := by simp; omega
      obtain ⟨hb1, hb2⟩ := sizeSum_bd (accOk_take hok k)
      obtain ⟨hd1, hd2⟩ := bytesSum_bd (accOk_take hok k)
      have hb3 : sizeSum (l.take k) ≤ 2560 := by omega
      have hd3 : bytesSum (l.take k) ≤ 2960 := by omega
      clear hb2 hd2 hlen
      by_cases hlt : k < l.length
      · obtain ⟨g, rfl, hnc, hcm, hbg, hg, hcells⟩ := hsome (by omega)
        obtain ⟨c0, c1, c2, c3⟩ := blk_cells (w := wr) (fun j u hj => (hup.cell (p := ⟨g, j, none⟩) hg).trans (hcells j u hj)) hlt
        obtain ⟨d0, d1⟩ := plc_cells (read_cells ho) (midQ_at l k hlt)
        have f0 := ownsRow_free ho (k * 2)
        have f1 := ownsRow_free ho (k * 2 + 1)
        have n0 := box_cell hbx 0
        have n1 := box_cell hbx 1
        have m0 := box_free hbx 0
        have m1 := box_free hbx 1
        simp at n0 n1
        obtain ⟨hs1, hs2, hs3⟩ := (hok.2 l[k] (List.getElem_mem hlt))
        have HS : Hid (sizeSum (l.take (k + 1)) = sizeSum (l.take k) + l[k].size) := sizeSum_take hlt
        have HD : Hid (bytesSum (l.take (k + 1)) = bytesSum (l.take k) + 10 + l[k].body.size) := bytesSum_take hlt
        have hrl : w1.heap.size < wr.heap.size := (ho.lt _ rfl).2
        have hnl : w1.heap.size + 1 < wr.heap.size := (Array.getElem?_eq_some_iff.1 hbx).1
        have HM := Lib.hid (midQ_set l k hlt)
        have hgne : g ≠ w1.heap.size := by omega
        clear hcells
        go_wp2
        go_roundw
        case rel =>
          refine ⟨k + 1, by omega, by go_num, ((((hup.set (p := ⟨w1.heap.size, k * 2, none⟩) (Nat.le_refl _) _).set (p := ⟨w1.heap.size, k * 2 + 1, none⟩) (Nat.le_refl _) _).set (p := ⟨w1.heap.size + 1, 0, none⟩) (Nat.le_succ _) _).set (p := ⟨w1.heap.size + 1, 1, none⟩) (Nat.le_succ _) _).alloc _, ?_, ?_⟩
          · rw [← HM.out]
            exact (ownsRow_other (ownsRow_other (ownsRow_set (ownsRow_set ho (k * 2) _) (k * 2 + 1) _) (p := ⟨w1.heap.size + 1, 0, none⟩) (Nat.ne_of_lt (Nat.lt_succ_self _)) _) (p := ⟨w1.heap.size + 1, 1, none⟩) (Nat.ne_of_lt (Nat.lt_succ_self _)) _).alloc _
          · rw [HD.out, HS.out, Int.add_assoc]
            exact box_up ((Up.refl _).alloc _) (box_set (box_set (box_other (box_other hbx (p := ⟨w1.heap.size, k * 2, none⟩) (Nat.ne_of_gt (Nat.lt_succ_self _)) _) (p := ⟨w1.heap.size, k * 2 + 1, none⟩) (Nat.ne_of_gt (Nat.lt_succ_self _)) _) 0 _) 1 _)
        case measure => simp [intOf]; omega
      · have e : k = l.length := by omega
        subst e
        rw [midQ_all] at ho
        go_wp2
        go_ret2
        refine ⟨_, rfl, ?_, U1.trans hup⟩
        simp only [Option.getD_some, placesK_length]
        exact ownsRow_base ho U1.size

end Go.Proofs.YtekbbnkkninolaaGreat

/- Walks of the reference's draws of data that may not fit, of settings that may not be valid, of dictionaries. Conditions: the reader is one (Rdr), its place is bounded. -/
namespace Go.Proofs.YtekbbnkkninolaaGreat
set_option linter.unusedVariables false
set_option linter.unusedSimpArgs false
open Go Go.RowKit

def isSetB (v : Value) : Prop := ∃ s : SetD, v = setV s ∧ (-9223372036854775808 ≤ s.lit ∧ s.lit ≤ 9223372036854775807)
theorem isSetB_mk (a b c : Int) (h : -9223372036854775808 ≤ b ∧ b ≤ 9223372036854775807) : isSetB (.agg #[.int .i64 a, .int .i64 b, .int .i64 c]) := ⟨⟨a, b, c⟩, rfl, h⟩

set_option maxRecDepth 100000 in
set_option maxHeartbeats 4000000 in
theorem l1BadB_any (rb : Nat) (B : Value) (s : SetD) (w : World) (N : Nat) (h : Rdr rb B w N) (hN : N ≤ 1000000000) (hs : setOk s = true) :
    Calls Tryz.prog 91  #[.pointer (some ⟨rb, 0, none⟩), setV s] w (Drawn rb B 2 isSetB w) := by
  have hlt := h.lt
  have HR := Lib.hid h
  have hne0 : ¬ w.heap.size = rb := by omega
  have hne1 : ¬ w.heap.size + 1 = rb := by omega
  have hU := RdUp.refl rb B 0 w
  have e1 : w.heap.size < w.heap.size + 1 := by omega
  have e2 : w.heap.size < w.heap.size + 1 + 1 := by omega
  have e3 : w.heap.size + 1 < w.heap.size + 1 + 1 := by omega
  have hlb := (setOk_bd hs).2.1
  obtain ⟨hlb1, hlb2⟩ := hlb
  clear hs
  simp only [setV]
  go_enter Tryz.func91, Tryz.ntmps91
  go_wp2_with (first | (go_at_call 105; ((with_reducible refine (num_at ([-1, 2]) HR.out hU (by intro c hU; (repeat (first | with_reducible assumption | refine RdUp.ups ?_ (by with_reducible assumption) | with_reducible refine RdUp.set ?_ (by first | exact Nat.le_refl _ | (simp only []; omega) | (simp; omega)) _ | with_reducible refine RdUp.alloc ?_ _ | with_reducible refine RdUp.drew ?_ | with_reducible exact RdUp.of (Up.refl _)))) (by omega) (by first | rfl | (simp; done) | fail) (by first | rfl | (simp; done) | fail) (by first | rfl | (simp; done) | fail) (by simp) (by simp) (by first | rfl | (simp; done) | fail)).mono ?_); rintro e w' ⟨i, rfl, hi, hU, U⟩; have D := gcell U.1; have Z := U.1.size; (try simp at Z); (try have Y0 : w.heap.size < w'.heap.size := (by omega)); (try have Y1 : w.heap.size + 1 < w'.heap.size := (by omega)); (try have Y2 : w.heap.size + 1 + 1 < w'.heap.size := (by omega)); (try have X0 : w.heap.size < w'.heap.size + 1 := (by omega)); (try have X1 : w.heap.size + 1 < w'.heap.size + 1 := (by omega)); (try have X2 : w.heap.size + 1 + 1 < w'.heap.size + 1 := (by omega)); (clear hi))) | (go_at_call 105; ((with_reducible refine (num_at ([0, 9, -1, 9223372036854775807]) HR.out hU (by intro c hU; (repeat (first | with_reducible assumption | refine RdUp.ups ?_ (by with_reducible assumption) | with_reducible refine RdUp.set ?_ (by first | exact Nat.le_refl _ | (simp only []; omega) | (simp; omega)) _ | with_reducible refine RdUp.alloc ?_ _ | with_reducible refine RdUp.drew ?_ | with_reducible exact RdUp.of (Up.refl _)))) (by omega) (by first | rfl | (simp; done) | fail) (by first | rfl | (simp; done) | fail) (by first | rfl | (simp; done) | fail) (by simp) (by simp) (by first | rfl | (simp; done) | fail)).mono ?_); rintro e w' ⟨i, rfl, hi, hU, U⟩; have D := gcell U.1; have Z := U.1.size; (try simp at Z); (try have Y0 : w.heap.size < w'.heap.size := (by omega)); (try have Y1 : w.heap.size + 1 < w'.heap.size := (by omega)); (try have Y2 : w.heap.size + 1 + 1 < w'.heap.size := (by omega)); (try have X0 : w.heap.size < w'.heap.size + 1 := (by omega)); (try have X1 : w.heap.size + 1 < w'.heap.size + 1 := (by omega)); (try have X2 : w.heap.size + 1 + 1 < w'.heap.size + 1 := (by omega)); ((have hlx : -9223372036854775808 ≤ i ∧ i ≤ 9223372036854775807 := (by simp at hi; omega)); clear hi))) | (go_at_call 105; ((with_reducible refine (num_at ([s.lit + 1, 11, -1, -9223372036854775808]) HR.out hU (by intro c hU; (repeat (first | with_reducible assumption | refine RdUp.ups ?_ (by with_reducible assumption) | with_reducible refine RdUp.set ?_ (by first | exact Nat.le_refl _ | (simp only []; omega) | (simp; omega)) _ | with_reducible refine RdUp.alloc ?_ _ | with_reducible refine RdUp.drew ?_ | with_reducible exact RdUp.of (Up.refl _)))) (by omega) (by first | rfl | (simp; done) | fail) (by first | rfl | (simp; done) | fail) (by first | rfl | (simp; done) | fail) (by simp) (by simp) (by first | rfl | (simp; done) | fail)).mono ?_); rintro e w' ⟨i, rfl, hi, hU, U⟩; have D := gcell U.1; have Z := U.1.size; (try simp at Z); (try have Y0 : w.heap.size < w'.heap.size := (by omega)); (try have Y1 : w.heap.size + 1 < w'.heap.size := (by omega)); (try have Y2 : w.heap.size + 1 + 1 < w'.heap.size := (by omega)); (try have X0 : w.heap.size < w'.heap.size + 1 := (by omega)); (try have X1 : w.heap.size + 1 < w'.heap.size + 1 := (by omega)); (try have X2 : w.heap.size + 1 + 1 < w'.heap.size + 1 := (by omega)); (clear hi))) | (go_at_call 89; ((with_reducible refine (pick_at HR.out hU (by intro c hU; (repeat (first | with_reducible assumption | refine RdUp.ups ?_ (by with_reducible assumption) | with_reducible refine RdUp.set ?_ (by first | exact Nat.le_refl _ | (simp only []; omega) | (simp; omega)) _ | with_reducible refine RdUp.alloc ?_ _ | with_reducible refine RdUp.drew ?_ | with_reducible exact RdUp.of (Up.refl _)))) (by omega)).mono ?_); rintro e w' ⟨i, rfl, hi0, hi1, hU, U⟩; have D := gcell U.1; have Z := U.1.size; (try simp at Z); (try have Y0 : w.heap.size < w'.heap.size := (by omega)); (try have Y1 : w.heap.size + 1 < w'.heap.size := (by omega)); (try have Y2 : w.heap.size + 1 + 1 < w'.heap.size := (by omega)); (try have X0 : w.heap.size < w'.heap.size + 1 := (by omega)); (try have X1 : w.heap.size + 1 < w'.heap.size + 1 := (by omega)); (try have X2 : w.heap.size + 1 + 1 < w'.heap.size + 1 := (by omega)))))
  all_goals
    have q0 : w'.cell? ⟨w.heap.size + 1, 0, none⟩ = some (.int .i64 0) := by simp [go_sem, *]
    have q1 : w'.cell? ⟨w.heap.size + 1, 1, none⟩ = some (.int .i64 0) := by simp [go_sem, *]
    have q2 : w'.cell? ⟨w.heap.size + 1, 2, none⟩ = some (.int .i64 0) := by simp [go_sem, *]
    refine bodyPost_ret (v := _) (by simp [results, Tryz.results91, go_sem, q0, q1, q2]; rfl) rfl ?_
    refine ⟨_, rfl, isSetB_mk _ _ _ (by first | omega | assumption), ?_⟩
    exact RdUp.fin hU (by intro c hU; (repeat (first | with_reducible assumption | refine RdUp.ups ?_ (by with_reducible assumption) | with_reducible refine RdUp.set ?_ (by first | exact Nat.le_refl _ | (simp only []; omega) | (simp; omega)) _ | with_reducible refine RdUp.alloc ?_ _ | with_reducible refine RdUp.drew ?_ | with_reducible exact RdUp.of (Up.refl _)))) (by omega)


theorem RdInts.gr {rb : Nat} {w w' : World} {v : Value} {l : List Int} (h : RdInts rb w v l) (hg : w.grownBy w' (some rb)) : RdInts rb w' v l := by
  obtain ⟨b, off, cap, h1, h2, h3, h4, h5, h6⟩ := h
  exact ⟨b, off, cap, h1, h2, h3, Nat.lt_of_lt_of_le h4 hg.size, h5, fun i x hi => ((gcell hg).1 b _ h4 (fun e => h5 (Option.some.inj e))).trans (h6 i x hi)⟩
end Go.Proofs.YtekbbnkkninolaaGreat

/- Walks of the reference's draws of blocks and containers. Conditions: the bytes can be read. -/
namespace Go.Proofs.YtekbbnkkninolaaGreat
set_option linter.unusedVariables false
set_option linter.unusedSimpArgs false
open Go Go.RowKit

abbrev litB (s : SetD) : Prop := -9223372036854775808 ≤ s.lit ∧ s.lit ≤ 9223372036854775807

set_option maxRecDepth 100000 in
set_option maxHeartbeats 8000000 in
theorem drawMakeContainer_any (v : Value) (l : List UInt8) (w : World) (h : ArgU w v l) :
    Calls Tryz.prog 51  #[v] w (fun e w' => ∃ (s : SetD) (dict d : ByteArray) (n : Int), e = .returned (.tuple #[setV s, .string dict, .string d, .int .i64 n]) ∧ litB s ∧ dict.size ≤ 1000 ∧ d.size ≤ 66 ∧ (-1 ≤ n ∧ n ≤ 65) ∧ Up w w') := by
  have cO := fun w' hu => open_at (h.up (w' := w') hu)
  clear h
  go_enter Tryz.func51, Tryz.ntmps51
  go_wp2_with (go_at_call 77; (with_reducible refine (cO _ (by (repeat (first | with_reducible exact Up.refl _ | with_reducible assumption | with_reducible refine Up.set ?_ (by first | exact Nat.le_refl _ | (simp only []; omega) | (simp; omega)) _ | with_reducible refine Up.alloc ?_ _ | with_reducible refine Up.drew ?_ | refine Up.trans ?_ (by with_reducible assumption))))).mono ?_); rintro e w1 ⟨B, rfl, hr, U1⟩)
  have hRB : SetAt w.heap.size 0 0 0 w1 := box_up U1 (MapKept.heap_alloc w _).1
  have hUp : Up w w1 := by (repeat (first | with_reducible exact Up.refl _ | with_reducible assumption | with_reducible refine Up.set ?_ (by first | exact Nat.le_refl _ | (simp only []; omega) | (simp; omega)) _ | with_reducible refine Up.alloc ?_ _ | with_reducible refine Up.drew ?_ | refine Up.trans ?_ (by with_reducible assumption)))
  rw [size_alloc] at hr
  have hrw : w.heap.size < w.heap.size + 1 := by omega
  generalize w.heap.size + 1 = rb at *
  obtain ⟨p, hp, hr, HM⟩ := hr.least
  have hlt := hr.lt
  have HR := Lib.hid hr
  have hU := RdUp.refl rb B 0 w1
  have hne0 : ¬ w.heap.size = rb := by omega
  clear cO U1
  have cS := fun w N h hN => l5Setup_any rb B w N h hN
  go_wp2_with ((go_at_call 103; ((with_reducible refine (draw_atM (cS) HR.out hU (by intro c hU; (repeat (first | with_reducible assumption | refine RdUp.ups ?_ (by with_reducible assumption) | with_reducible refine RdUp.set ?_ (by first | exact Nat.le_refl _ | (simp only []; omega) | (simp; omega)) _ | with_reducible refine RdUp.alloc ?_ _ | with_reducible refine RdUp.drew ?_ | with_reducible exact RdUp.of (Up.refl _)))) (by omega)).mono ?_); rintro e w' ⟨v, rfl, ⟨s, dict, rfl, hs, hdi⟩, hU, U⟩; have D := gcell U.1; have Z := U.1.size; (try simp at Z); (try have Y0 : w.heap.size < w'.heap.size := (by omega)); (try have Y1 : w.heap.size + 1 < w'.heap.size := (by omega)); (try have Y2 : w.heap.size + 1 + 1 < w'.heap.size := (by omega)); (try have X0 : w.heap.size < w'.heap.size + 1 := (by omega)); (try have X1 : w.heap.size + 1 < w'.heap.size + 1 := (by omega)); (try have X2 : w.heap.size + 1 + 1 < w'.heap.size + 1 := (by omega)))))
  have hSB : SetAt w'.heap.size s.ord s.lit s.most (w'.alloc (.cells #[.int .i64 s.ord, .int .i64 s.lit, .int .i64 s.most] 26)) := (MapKept.heap_alloc w' _).1
  have hRB : SetAt w.heap.size 0 0 0 (w'.alloc (.cells #[.int .i64 s.ord, .int .i64 s.lit, .int .i64 s.most] 26)) := box_up ((Up.refl _).alloc _) (gbox U.1 hRB (by simp; omega))
  have hU : RdUp rb B 25000 w1 (w'.alloc (.cells #[.int .i64 s.ord, .int .i64 s.lit, .int .i64 s.most] 26)) := by exact RdUp.fin hU (by intro c hU; (repeat (first | with_reducible assumption | refine RdUp.ups ?_ (by with_reducible assumption) | with_reducible refine RdUp.set ?_ (by first | exact Nat.le_refl _ | (simp only []; omega) | (simp; omega)) _ | with_reducible refine RdUp.alloc ?_ _ | with_reducible refine RdUp.drew ?_ | with_reducible exact RdUp.of (Up.refl _)))) (by omega)
  have hbr : ¬ w'.heap.size = rb := by omega
  generalize (w'.alloc (.cells #[.int .i64 s.ord, .int .i64 s.lit, .int .i64 s.most] 26)) = W at *
  generalize w'.heap.size = b5 at *
  obtain ⟨hbs, s0, s1, s2⟩ := SetAt.cells hSB
  obtain ⟨hb0, q0, q1, q2⟩ := SetAt.cells hRB
  have hfr := box_free hRB
  clear D U Z
  have cW := fun w N h hN => l5Wild_any rb B s 60 60 rfl w N h hN (by omega) hs
  have cB := fun w N h hN => l1BadB_any rb B s w N h hN hs
  clear hs
  simp only [setV] at *
  go_wp2_with (first | ((go_at_call 104; ((with_reducible refine (draw_atM (cW) HR.out hU (by intro c hU; (repeat (first | with_reducible assumption | refine RdUp.ups ?_ (by with_reducible assumption) | with_reducible refine RdUp.set ?_ (by first | exact Nat.le_refl _ | (simp only []; omega) | (simp; omega)) _ | with_reducible refine RdUp.alloc ?_ _ | with_reducible refine RdUp.drew ?_ | with_reducible exact RdUp.of (Up.refl _)))) (by omega)).mono ?_); rintro e w' ⟨v, rfl, ⟨d, rfl, hd⟩, hU, U⟩; have D := gcell U.1; have Z := U.1.size; (try simp at Z); (try have Y0 : w.heap.size < w'.heap.size := (by omega)); (try have Y1 : w.heap.size + 1 < w'.heap.size := (by omega)); (try have Y2 : w.heap.size + 1 + 1 < w'.heap.size := (by omega)); (try have X0 : w.heap.size < w'.heap.size + 1 := (by omega)); (try have X1 : w.heap.size + 1 < w'.heap.size + 1 := (by omega)); (try have X2 : w.heap.size + 1 + 1 < w'.heap.size + 1 := (by omega)))); have hSB := gbox U.1 hSB (by simp; omega); have hRB := gbox U.1 hRB (by simp; omega); clear s0 s1 s2 hbs q0 q1 q2 hb0 hfr; obtain ⟨hbs, s0, s1, s2⟩ := SetAt.cells hSB; obtain ⟨hb0, q0, q1, q2⟩ := SetAt.cells hRB; have hfr := box_free hRB; clear D U) | ((go_at_call 89; ((with_reducible refine (pick_at (n := 24) HR.out hU (by intro c hU; (repeat (first | with_reducible assumption | refine RdUp.ups ?_ (by with_reducible assumption) | with_reducible refine RdUp.set ?_ (by first | exact Nat.le_refl _ | (simp only []; omega) | (simp; omega)) _ | with_reducible refine RdUp.alloc ?_ _ | with_reducible refine RdUp.drew ?_ | with_reducible exact RdUp.of (Up.refl _)))) (by omega)).mono ?_); rintro e w' ⟨x, rfl, x0, x1, hU, U⟩; have D := gcell U.1; have Z := U.1.size; (try simp at Z); (try have Y0 : w.heap.size < w'.heap.size := (by omega)); (try have Y1 : w.heap.size + 1 < w'.heap.size := (by omega)); (try have Y2 : w.heap.size + 1 + 1 < w'.heap.size := (by omega)); (try have X0 : w.heap.size < w'.heap.size + 1 := (by omega)); (try have X1 : w.heap.size + 1 < w'.heap.size + 1 := (by omega)); (try have X2 : w.heap.size + 1 + 1 < w'.heap.size + 1 := (by omega)); (skip))); have hSB := gbox U.1 hSB (by simp; omega); have hRB := gbox U.1 hRB (by simp; omega); clear s0 s1 s2 hbs q0 q1 q2 hb0 hfr; obtain ⟨hbs, s0, s1, s2⟩ := SetAt.cells hSB; obtain ⟨hb0, q0, q1, q2⟩ := SetAt.cells hRB; have hfr := box_free hRB; clear D U) | ((go_at_call 89; ((with_reducible refine (pick_at (n := 16) HR.out hU (by intro c hU; (repeat (first | with_reducible assumption | refine RdUp.ups ?_ (by with_reducible assumption) | with_reducible refine RdUp.set ?_ (by first | exact Nat.le_refl _ | (simp only []; omega) | (simp; omega)) _ | with_reducible refine RdUp.alloc ?_ _ | with_reducible refine RdUp.drew ?_ | with_reducible exact RdUp.of (Up.refl _)))) (by omega)).mono ?_); rintro e w' ⟨x2, rfl, x20, x21, hU, U⟩; have D := gcell U.1; have Z := U.1.size; (try simp at Z); (try have Y0 : w.heap.size < w'.heap.size := (by omega)); (try have Y1 : w.heap.size + 1 < w'.heap.size := (by omega)); (try have Y2 : w.heap.size + 1 + 1 < w'.heap.size := (by omega)); (try have X0 : w.heap.size < w'.heap.size + 1 := (by omega)); (try have X1 : w.heap.size + 1 < w'.heap.size + 1 := (by omega)); (try have X2 : w.heap.size + 1 + 1 < w'.heap.size + 1 := (by omega)); (skip))); have hSB := gbox U.1 hSB (by simp; omega); have hRB := gbox U.1 hRB (by simp; omega); clear s0 s1 s2 hbs q0 q1 q2 hb0 hfr; obtain ⟨hbs, s0, s1, s2⟩ := SetAt.cells hSB; obtain ⟨hb0, q0, q1, q2⟩ := SetAt.cells hRB; have hfr := box_free hRB; clear D U) | ((go_at_call 105; ((with_reducible refine (num_at ([0, 1, 64, 65, -1]) HR.out hU (by intro c hU; (repeat (first | with_reducible assumption | refine RdUp.ups ?_ (by with_reducible assumption) | with_reducible refine RdUp.set ?_ (by first | exact Nat.le_refl _ | (simp only []; omega) | (simp; omega)) _ | with_reducible refine RdUp.alloc ?_ _ | with_reducible refine RdUp.drew ?_ | with_reducible exact RdUp.of (Up.refl _)))) (by omega) (by first | rfl | (simp; done) | fail) (by first | rfl | (simp; done) | fail) (by first | rfl | (simp; done) | fail) (by simp) (by simp) (by first | rfl | (simp; done) | fail)).mono ?_); rintro e w' ⟨i, rfl, hi, hU, U⟩; have D := gcell U.1; have Z := U.1.size; (try simp at Z); (try have Y0 : w.heap.size < w'.heap.size := (by omega)); (try have Y1 : w.heap.size + 1 < w'.heap.size := (by omega)); (try have Y2 : w.heap.size + 1 + 1 < w'.heap.size := (by omega)); (try have X0 : w.heap.size < w'.heap.size + 1 := (by omega)); (try have X1 : w.heap.size + 1 < w'.heap.size + 1 := (by omega)); (try have X2 : w.heap.size + 1 + 1 < w'.heap.size + 1 := (by omega)); ((have hi9 : -1 ≤ i ∧ i ≤ 65 := (by simp at hi; omega)); clear hi))); have hSB := gbox U.1 (box_up ((Up.refl _).alloc _) hSB) (by simp; omega); have hRB := gbox U.1 (box_up ((Up.refl _).alloc _) hRB) (by simp; omega); clear s0 s1 s2 hbs q0 q1 q2 hb0 hfr; obtain ⟨hbs, s0, s1, s2⟩ := SetAt.cells hSB; obtain ⟨hb0, q0, q1, q2⟩ := SetAt.cells hRB; have hfr := box_free hRB; clear D U) | ((go_at_call 91; ((with_reducible refine (draw_atM (cB) HR.out hU (by intro c hU; (repeat (first | with_reducible assumption | refine RdUp.ups ?_ (by with_reducible assumption) | with_reducible refine RdUp.set ?_ (by first | exact Nat.le_refl _ | (simp only []; omega) | (simp; omega)) _ | with_reducible refine RdUp.alloc ?_ _ | with_reducible refine RdUp.drew ?_ | with_reducible exact RdUp.of (Up.refl _)))) (by omega)).mono ?_); rintro e w' ⟨v, rfl, ⟨s9, rfl, hs9⟩, hU, U⟩; have D := gcell U.1; have Z := U.1.size; (try simp at Z); (try have Y0 : w.heap.size < w'.heap.size := (by omega)); (try have Y1 : w.heap.size + 1 < w'.heap.size := (by omega)); (try have Y2 : w.heap.size + 1 + 1 < w'.heap.size := (by omega)); (try have X0 : w.heap.size < w'.heap.size + 1 := (by omega)); (try have X1 : w.heap.size + 1 < w'.heap.size + 1 := (by omega)); (try have X2 : w.heap.size + 1 + 1 < w'.heap.size + 1 := (by omega)))); have hSB := gbox U.1 hSB (by simp; omega); have hRB := gbox U.1 hRB (by simp; omega); clear s0 s1 s2 hbs q0 q1 q2 hb0 hfr; obtain ⟨hbs, s0, s1, s2⟩ := SetAt.cells hSB; obtain ⟨hb0, q0, q1, q2⟩ := SetAt.cells hRB; have hfr := box_free hRB; clear D U))
  all_goals
    have hUw := up_grownR hUp hU.1 (by omega)
    refine bodyPost_ret (v := _) (by simp [results, Tryz.results51, go_sem, q0, q1, q2, hb0, hne0]; rfl) rfl ?_
    refine ⟨s9, dict, d, _, rfl, hs9, hdi, hd, by omega, ?_⟩
    (repeat (first | with_reducible exact Up.refl _ | with_reducible assumption | with_reducible refine Up.set ?_ (by first | exact Nat.le_refl _ | (simp only []; omega) | (simp; omega)) _ | with_reducible refine Up.alloc ?_ _ | with_reducible refine Up.drew ?_ | refine Up.trans ?_ (by with_reducible assumption)))

end Go.Proofs.YtekbbnkkninolaaGreat

/- Walk of the program's follow, which goes on behind a code. Conditions: the tree lies in memory, what is known is valid, the code can follow or is the clear code. -/
namespace Go.Proofs.YtekbbnkkninolaaGreat
set_option linter.unusedVariables false
set_option linter.unusedSimpArgs false
open Go Go.RowKit

/-- The last code is stored: nothing else of the tree turns. -/
theorem TreeAt.last {lo tb : Nat} {k k' : KnD} {vp vn vi : Value} {w : World} (h : TreeAt lo tb k vp vn vi w) (x : Int) (hs : k'.set = k.set) (hp : k'.ps = k.ps) (hb : k'.base = k.base) (hl : k'.last = x) : TreeAt lo tb k' vp vn vi (w.setCell ⟨tb, 5, none⟩ (.int .i64 x)) := by
  have ht : k'.tree = k.tree := by unfold KnD.tree KnD.c; rw [hs, hp]
  refine ⟨?_, h.low, ?_, ?_, ?_⟩
  · unfold TrBox
    rw [hs, hb, hl]
    exact box_set h.box 5 (.int .i64 x)
  · rw [hp]; exact ownsRow_setb h.prs (box_ne h.box h.prs (by decide)) 5 _
  · rw [ht]; exact ownsRow_setb h.nod (box_ne h.box h.nod (by decide)) 5 _
  · rw [ht]; exact ownsRow_setb h.idx (box_ne h.box h.idx (by decide)) 5 _
theorem TrPost.last {lo tb : Nat} {k k' : KnD} {vp vn vi : Value} {w w' : World} (h : TrPost lo tb k vp vn vi w w') (x : Int) (hs : k'.set = k.set) (hp : k'.ps = k.ps) (hb : k'.base = k.base) (hl : k'.last = x) : TrPost lo tb k' vp vn vi w (w'.setCell ⟨tb, 5, none⟩ (.int .i64 x)) := by
  obtain ⟨vp', vn', vi', h1, h2, h3⟩ := h
  exact ⟨vp', vn', vi', h1.last x hs hp hb hl, h2.set (p := ⟨tb, 5, none⟩) (.inl (.inl rfl)) _, h3⟩
theorem TrPost.pre {lo tb : Nat} {k : KnD} {vp vn vi : Value} {w w1 w' : World} (hu : Up w w1) (h : TrPost lo tb k vp vn vi w1 w') : TrPost lo tb k vp vn vi w w' := by
  obtain ⟨vp', vn', vi', h1, h2, h3⟩ := h
  exact ⟨vp', vn', vi', h1, (Fr.of _ hu).trans h2 (fun _ h => .inl h), fun b hb => (h3 b hb).imp id (fun h => Nat.le_trans hu.size h)⟩
theorem TrPost.refl {lo tb : Nat} {k : KnD} {vp vn vi : Value} {w : World} (h : TreeAt lo tb k vp vn vi w) : TrPost lo tb k vp vn vi w w := ⟨vp, vn, vi, h, Fr.refl _ _, fun _ h => .inl h⟩

set_option maxRecDepth 100000 in
set_option maxHeartbeats 4000000 in
theorem followC_any (lo tb : Nat) (k : KnD) (vp vn vi : Value) (w : World) (h : TreeAt lo tb k vp vn vi w) (hk : k.Tr) (hb0 : 0 ≤ k.base) (hb1 : k.base ≤ k.ps.length) :
    Calls Tryz.prog 136  #[.pointer (some ⟨tb, 0, none⟩), .int .i64 (k.c : Nat)] w (fun e w' => (∃ v, e = .returned v) ∧ TrPost lo tb k.cleared vp vn vi w w') := by
  have cK := fun w => clearI_any k.set w hk.set
  have cF := fun w hT => forget_any lo tb k vp vn vi w hT hk hb0 hb1
  obtain ⟨c0, c1, c2, c3, c4, c5, c6, c7⟩ := h.cells
  have htb := h.lt
  have ec : k.c = clr k.set := rfl
  have H := Lib.hid h
  rw [ec]
  clear h
  go_enter Tryz.func136, Tryz.ntmps136
  go_wp2_with (first | (go_at_call 137; (with_reducible refine (cK _).mono ?_); rintro e w1 ⟨rfl, U1⟩; have B1 := bcell U1; have Z1 := U1.size; (try simp at Z1); (try rw [Nat.add_one_le_iff] at Z1)) | fail)
  refine (cF _ (H.out.up U1)).mono ?_
  rintro e w2 ⟨⟨v, rfl⟩, hP⟩
  have hP2 := hP.last (k' := k.cleared) (-1) rfl rfl rfl rfl
  obtain ⟨vp', vn', vi', hT2, -, -⟩ := hP
  have htb2 := hT2.lt
  obtain ⟨d0, d1, d2, d3, d4, d5, d6, d7⟩ := hT2.cells
  have hfr2 := box_free hT2.box
  have HP := Lib.hid hP2
  clear hT2 hP2 B1
  go_wp2
  (try simp only [Exit.inBlock, Exit.then]); refine bodyPost_ret (results_none rfl _ _ _) rfl ?_
  exact ⟨⟨_, rfl⟩, HP.out.pre U1⟩

/-- The code whose node has the first byte of a code's word. -/
def KnD.from (k : KnD) (x : Int) : Int := if x = k.next then k.last else x
theorem KnD.from_ok {k : KnD} (hk : k.Ok) {x : Int} (hf : k.follows x = true) : codeOk k.c k.ps.length (k.from x) = true := by
  unfold KnD.from
  rcases KnD.follows_cases hk hf with hc | ⟨_, hx, hl⟩
  · rw [if_neg (by rw [codeOk_iff] at hc; unfold KnD.next; omega)]; exact hc
  · rw [if_pos hx]; exact hl
theorem KnD.from_first {k : KnD} (hk : k.Ok) {x : Int} (hf : k.follows x = true) : (nodAt k.tree.ns (nodeOf k.c k.tree (k.from x))).fir = k.first x := by
  have hT := hk.tree
  have hfr := KnD.from_ok hk hf
  obtain ⟨a1, a2, a3⟩ := hT.node _ hfr
  have h1 := hT.first _ a1
  obtain ⟨-, -, f1, f2⟩ := hT.bytes _ a1
  have hcb := hk.c_bd
  rw [a3] at h1
  have h2 : (k.any x).getD 0 0 = (wordP k.c k.ps (k.from x)).getD 0 0 := by
    unfold KnD.any KnD.from
    split
    · have hl : codeOk k.c k.ps.length k.last = true := by
        have := hfr
        unfold KnD.from at this
        rwa [if_pos (by assumption)] at this
      have hp : 1 ≤ (k.word k.last).length := wordP_pos hk.ps hl
      show (k.word k.last ++ (k.word k.last).take 1).getD 0 0 = (k.word k.last).getD 0 0
      rw [List.getD_eq_getElem?_getD, List.getD_eq_getElem?_getD, List.getElem?_append_left (by omega)]
    · rfl
  unfold KnD.first
  rw [h2, h1, ub_nat f1 (by omega)]

set_option maxRecDepth 100000 in
set_option maxHeartbeats 4000000 in
theorem followW_any (lo tb : Nat) (k : KnD) (vp vn vi : Value) (x : Int) (w : World) (h : TreeAt lo tb k vp vn vi w) (hk : k.Ok) (hx : ¬ x = (k.c : Int)) (hf : k.follows x = true) :
    Calls Tryz.prog 136  #[.pointer (some ⟨tb, 0, none⟩), .int .i64 x] w (fun e w' => (∃ v, e = .returned v) ∧ TrPost lo tb (k.after x) vp vn vi w w') := by
  have hkt := hk.tr
  have cK := fun w => clearI_any k.set w hk.set
  obtain ⟨c0, c1, c2, c3, c4, c5, c6, c7⟩ := h.cells
  have hfr := box_free h.box
  have htb := h.lt
  have ec : k.c = clr k.set := rfl
  have hps : k.ps.length ≤ 100000 := by have := hkt.len; have := hkt.c_bd; omega
  obtain ⟨ap, cp, rfl⟩ := h.shape
  have cG := fun w => growI_any k.set k.base k.last ap k.ps.length cp w hk.set hps
  have cX := fun w => nextI_any k.set k.base k.last ap k.ps.length cp w hk.set hps
  rw [growN_eq] at cG
  simp only [knV] at cG cX
  have H := Lib.hid h
  have hxb : (x == ((clr k.set : Nat) : Int)) = false := by rw [← ec]; simpa using hx
  have en : ((clr k.set : Int) + 2 + k.ps.length) = (k.next : Nat) := by unfold KnD.next KnD.c; omega
  have hgw := htb
  cases hg : k.grow
  · have hA : k.after x = ⟨k.set, k.ps, k.base, x⟩ := by unfold KnD.after; rw [hg]; simp
    rw [hA]
    rw [hg] at cG
    clear h hx hg hA cX en
    go_enter Tryz.func136, Tryz.ntmps136
    go_wp2_with (first | ((go_at_call 137; (with_reducible refine (cK _).mono ?_); rintro e w1 ⟨rfl, U1⟩; have B1 := bcell U1; have Z1 := U1.size; (try simp at Z1); (try rw [Nat.add_one_le_iff] at Z1)); have htb1 := Nat.lt_of_lt_of_le htb U1.size; have hgl1 := Nat.lt_of_lt_of_le hgw U1.size) | ((go_at_call 138; (with_reducible refine (cG _).mono ?_); rintro e w2 ⟨rfl, U2⟩; have B2 := bcell U2; have Z2 := U2.size; (try simp at Z2); (try rw [Nat.add_one_le_iff] at Z2)); have htb2 := Nat.lt_of_lt_of_le htb1 U2.size; have hgl2 := Nat.lt_of_lt_of_le hgl1 U2.size))
    go_end0
    have hT := (H.out.up U1).up U2
    exact ⟨⟨_, rfl⟩, (((TrPost.refl hT).last (k' := ⟨k.set, k.ps, k.base, x⟩) x rfl rfl rfl rfl).pre U2).pre U1⟩
  · have hA : k.after x = ⟨k.set, k.ps ++ [⟨k.last, k.first x⟩], k.base, x⟩ := by unfold KnD.after; rw [hg]; rfl
    have hlast := hk.lastOk hg
    have hnx : k.next ≤ lastC k.set := by
      unfold KnD.grow at hg
      simp only [Bool.and_eq_true, decide_eq_true_eq] at hg
      exact hg.2
    obtain ⟨hf1, hf2⟩ := KnD.first_bd hk hf
    have hf3 : k.first x ≤ 255 := by have := hk.c_bd; omega
    have cL := fun wq hT => learnT_any lo tb k (.slice ap k.ps.length cp) vn vi ⟨k.last, k.first x⟩ wq hT hkt hlast hf1 hf2 hnx
    have cN := fun wq hT => nodeOf_any lo tb k (.slice ap k.ps.length cp) vn vi (k.from x) wq hT hkt (KnD.from_ok hk hf)
    have hfi := KnD.from_first hk hf
    obtain ⟨hn1, -, -⟩ := hk.tree.node _ (KnD.from_ok hk hf)
    generalize nodeOf k.c k.tree (k.from x) = nd at *
    obtain ⟨g, cap, nxx, rfl, hg1, hg2, hg3, hg4, hg5, d0, d1, d2, d3, d4, d5⟩ := h.node1 hkt hn1
    rw [hfi] at d4
    unfold maxLen at hg2
    clear hgw
    have hgw := hg4
    rw [hA]
    rw [hg] at cG
    generalize k.first x = fx at *
    dsimp only at cL
    clear h hx hg hA hf hfi hnx d0 d1 d2 d3 d5 hlast
    by_cases hxn : x = k.next
    · have hfrom : k.from x = k.last := by unfold KnD.from; rw [if_pos hxn]
      rw [hfrom] at cN
      clear hfrom
      rw [en] at cX
      rw [← hxn] at cX
      clear en hxn
      go_enter Tryz.func136, Tryz.ntmps136
      go_wp2_with (first | ((go_at_call 137; (with_reducible refine (cK _).mono ?_); rintro e w1 ⟨rfl, U1⟩; have B1 := bcell U1; have Z1 := U1.size; (try simp at Z1); (try rw [Nat.add_one_le_iff] at Z1)); have htb1 := Nat.lt_of_lt_of_le htb U1.size; have hgl1 := Nat.lt_of_lt_of_le hgw U1.size) | ((go_at_call 138; (with_reducible refine (cG _).mono ?_); rintro e w2 ⟨rfl, U2⟩; have B2 := bcell U2; have Z2 := U2.size; (try simp at Z2); (try rw [Nat.add_one_le_iff] at Z2)); have htb2 := Nat.lt_of_lt_of_le htb1 U2.size; have hgl2 := Nat.lt_of_lt_of_le hgl1 U2.size) | ((go_at_call 168; (with_reducible refine (cX _).mono ?_); rintro e w3 ⟨rfl, U3⟩; have B3 := bcell U3; have Z3 := U3.size; (try simp at Z3); (try rw [Nat.add_one_le_iff] at Z3)); have htb3 := Nat.lt_of_lt_of_le htb2 U3.size; have hgl3 := Nat.lt_of_lt_of_le hgl2 U3.size))
      refine wp_region_upR 18 (by kernel_rfl) (by kernel_rfl) ?_
      simp only [List.take, List.drop]
      repeat (refine wpUp_step (fun K hK => ?_); go_simp; (try simp only [↓IntWalk.iteOmega]); first
        | (refine hK _ _ ?_; clear hK K)
        | (apply stepU_c
           · intro wq hwq; (have hbq := bcell hwq; (repeat (first | refine fills_no (by rfl) ?_ | refine fills_yes (by rfl) (fun vq hvq => ?_))); simp only [List.filter_nil, fills]; unfold upAt; go_simp; (try go_bits); (try simp only [↓IntWalk.iteOmega]); (try (rw [dif_pos (by omega)]; go_simp; try go_bits)); first | exact upOut_value | (apply upOut_call; (go_at_call 169; exact cN _ ((((H.out.up U1).up U2).up U3).up hwq))) | (apply upOut_eq; (go_at_call 169; exact cN _ ((((H.out.up U1).up U2).up U3).up hwq))))
           go_simp; refine hK _ _ ?_; clear hK K))
      refine wpUp_nil (fun wq hwq => ?_)
      simp only [fills]
      have hT := (((H.out.up U1).up U2).up U3).up hwq
      have hUq : Up w wq := ((U1.trans U2).trans U3).trans hwq
      go_wp2_with fail
      with_reducible refine (cL _ hT).mono ?_
      rintro e w5 ⟨⟨v, rfl⟩, hP⟩
      have hP2 := hP.last (k' := ⟨k.set, k.ps ++ [⟨k.last, fx⟩], k.base, x⟩) x rfl rfl rfl rfl
      obtain ⟨vp', vn', vi', hT2, -, -⟩ := hP
      have htb5 := hT2.lt
      obtain ⟨e0, e1, e2, e3, e4, e5, e6, e7⟩ := hT2.cells
      have hfr5 := box_free hT2.box
      have HP := Lib.hid (hP2.pre hUq)
      clear hT2 hP2 B1 B2 B3 hT hUq hwq
      go_wp2
      go_end0
      exact ⟨⟨_, rfl⟩, HP.out⟩
    · have hfrom : k.from x = x := by unfold KnD.from; rw [if_neg hxn]
      rw [hfrom] at cN
      clear hfrom
      have hxn2 : (x == (clr k.set : Int) + 2 + k.ps.length) = false := by rw [en]; simpa using hxn
      clear en hxn
      go_enter Tryz.func136, Tryz.ntmps136
      go_wp2_with (first | ((go_at_call 137; (with_reducible refine (cK _).mono ?_); rintro e w1 ⟨rfl, U1⟩; have B1 := bcell U1; have Z1 := U1.size; (try simp at Z1); (try rw [Nat.add_one_le_iff] at Z1)); have htb1 := Nat.lt_of_lt_of_le htb U1.size; have hgl1 := Nat.lt_of_lt_of_le hgw U1.size) | ((go_at_call 138; (with_reducible refine (cG _).mono ?_); rintro e w2 ⟨rfl, U2⟩; have B2 := bcell U2; have Z2 := U2.size; (try simp at Z2); (try rw [Nat.add_one_le_iff] at Z2)); have htb2 := Nat.lt_of_lt_of_le htb1 U2.size; have hgl2 := Nat.lt_of_lt_of_le hgl1 U2.size) | ((go_at_call 168; (with_reducible refine (cX _).mono ?_); rintro e w3 ⟨rfl, U3⟩; have B3 := bcell U3; have Z3 := U3.size; (try simp at Z3); (try rw [Nat.add_one_le_iff] at Z3)); have htb3 := Nat.lt_of_lt_of_le htb2 U3.size; have hgl3 := Nat.lt_of_lt_of_le hgl2 U3.size))
      refine wp_region_upR 18 (by kernel_rfl) (by kernel_rfl) ?_
      simp only [List.take, List.drop]
      repeat (refine wpUp_step (fun K hK => ?_); go_simp; (try simp only [↓IntWalk.iteOmega]); first
        | (refine hK _ _ ?_; clear hK K)
        | (apply stepU_c
           · intro wq hwq; (have hbq := bcell hwq; (repeat (first | refine fills_no (by rfl) ?_ | refine fills_yes (by rfl) (fun vq hvq => ?_))); simp only [List.filter_nil, fills]; unfold upAt; go_simp; (try go_bits); (try simp only [↓IntWalk.iteOmega]); (try (rw [dif_pos (by omega)]; go_simp; try go_bits)); first | exact upOut_value | (apply upOut_call; (go_at_call 169; exact cN _ ((((H.out.up U1).up U2).up U3).up hwq))) | (apply upOut_eq; (go_at_call 169; exact cN _ ((((H.out.up U1).up U2).up U3).up hwq))))
           go_simp; refine hK _ _ ?_; clear hK K))
      refine wpUp_nil (fun wq hwq => ?_)
      simp only [fills]
      have hT := (((H.out.up U1).up U2).up U3).up hwq
      have hUq : Up w wq := ((U1.trans U2).trans U3).trans hwq
      go_wp2_with fail
      with_reducible refine (cL _ hT).mono ?_
      rintro e w5 ⟨⟨v, rfl⟩, hP⟩
      have hP2 := hP.last (k' := ⟨k.set, k.ps ++ [⟨k.last, fx⟩], k.base, x⟩) x rfl rfl rfl rfl
      obtain ⟨vp', vn', vi', hT2, -, -⟩ := hP
      have htb5 := hT2.lt
      obtain ⟨e0, e1, e2, e3, e4, e5, e6, e7⟩ := hT2.cells
      have hfr5 := box_free hT2.box
      have HP := Lib.hid (hP2.pre hUq)
      clear hT2 hP2 B1 B2 B3 hT hUq hwq
      go_wp2
      go_end0
      exact ⟨⟨_, rfl⟩, HP.out⟩

end Go.Proofs.YtekbbnkkninolaaGreat

/- Walk of the program's newTree. Conditions: what is known is valid and can be read. -/
namespace Go.Proofs.YtekbbnkkninolaaGreat
set_option linter.unusedVariables false
set_option linter.unusedSimpArgs false
open Go Go.RowKit

def litC1 (i : Nat) : List Value := [.int .i64 (-1), .int .i64 (-1), .int .i64 (-1), .int .u8 i, .int .u8 i, .int .i64 i]
def litC (b : Nat) : List Value := (List.range b).flatMap litC1
theorem litC_succ (b : Nat) : litC (b + 1) = litC b ++ litC1 b := by simp [litC, List.range_succ]
theorem litC_one (b : Nat) : ∀ u ∈ litC1 b, u.oneCell' = true := by
  intro u hu
  simp only [litC1, List.mem_cons, List.not_mem_nil, or_false] at hu
  rcases hu with rfl | rfl | rfl | rfl | rfl | rfl <;> rfl
theorem litC_all (c : Nat) : litC c = cellsN (litsN c) := by
  unfold litC cellsN
  rw [litsN_length]
  rw [List.flatMap_def, List.flatMap_def]
  congr 1
  apply List.map_congr_left
  intro i hi
  have hi := List.mem_range.1 hi
  have h1 : lastCh (litsN c) i c = -1 := by
    rcases lastCh_cases (litsN c) i c with ⟨h, _⟩ | ⟨j, hj, _, h3, _⟩
    · exact h
    · rw [litsN_at hj] at h3; simp only [] at h3; omega
  unfold nodC
  rw [litsN_at hi, h1]
  rfl
theorem TreeAt.not_own {lo tb : Nat} {k : KnD} {vp vn vi : Value} {w : World} (h : TreeAt lo tb k vp vn vi w) {b : Nat} {cs : Array Value} {T : TypeId} (hb : w.heap[b]? = some (.cells cs T)) (h1 : T ≠ 160) (h2 : T ≠ 176) (h3 : T ≠ 181) (h4 : T ≠ 3) : ¬ Own tb vp vn vi b := by
  rintro (rfl | e | e | e)
  · have := h.box
    unfold TrBox at this
    rw [hb] at this
    cases this
    exact h1 rfl
  · exact box_ne hb h.prs h2 e.symm
  · exact box_ne hb h.nod h3 e.symm
  · exact box_ne hb h.idx h4 e.symm

/-- What is known, of the first j pairs. -/
def KnD.upto (k : KnD) (j : Nat) : KnD := ⟨k.set, k.ps.take j, k.base, k.last⟩
theorem KnD.upto_tr {k : KnD} (h : k.Tr) (j : Nat) : (k.upto j).Tr := by
  refine ⟨h.set, h.ps.take _, ?_⟩
  have := h.len
  show (k.ps.take j).length + k.c + 1 ≤ lastC k.set
  rw [List.length_take]; omega
theorem KnD.upto_add {k : KnD} {j : Nat} (h : j < k.ps.length) : (k.upto j).add k.ps[j] = k.upto (j + 1) := by
  unfold KnD.upto KnD.add
  rw [List.take_succ_eq_append_getElem h]
theorem KnD.upto_all (k : KnD) : k.upto k.ps.length = k := by unfold KnD.upto; rw [List.take_length]

/-- The first loop: the nodes of the literals. -/
structure Nt1 (k : KnD) (v : Value) (w : World) (b : Nat) (vn : Value) (wr : World) : Prop where
  le : b ≤ clr k.set
  kn : KnAt w.heap.size k v wr
  box : TrBox (w.heap.size + 1) k (.slice none 0 0) vn (.slice none 0 0) wr
  row : wr.ownsRow w.heap.size 181 6 vn b (litC b)
  up : Up w wr
def RelNt1 (k : KnD) (v : Value) (w : World) (i : Value) (wr : World) : Prop := ∃ (b : Nat) (vn : Value), i = .int .i64 b ∧ Nt1 k v w b vn wr
structure Nt2 (k : KnD) (v : Value) (w : World) (j : Nat) (vp vn vi : Value) (wr : World) : Prop where
  le : j ≤ k.ps.length
  kn : KnAt w.heap.size k v wr
  tree : TreeAt w.heap.size (w.heap.size + 1) (k.upto j) vp vn vi wr
  up : Up w wr
def RelNt2 (k : KnD) (v : Value) (w : World) (i : Value) (wr : World) : Prop := ∃ (j : Nat) (vp vn vi : Value), i = .int .i64 j ∧ Nt2 k v w j vp vn vi wr

/-- What newTree leaves. -/
def NewTree (k : KnD) (w : World) (e : Ending) (w' : World) : Prop := ∃ tb vp vn vi, e = .returned (.pointer (some ⟨tb, 0, none⟩)) ∧ TreeAt w.heap.size tb k vp vn vi w' ∧ Up w w'

set_option maxRecDepth 100000 in
set_option maxHeartbeats 8000000 in
theorem newTree_any (k : KnD) (v : Value) (lo : Nat) (w : World) (hk : k.Ok) (hr : RdP lo w v k.ps) :
    Calls Tryz.prog 135  #[kV k v] w (NewTree k w) := by
  obtain ⟨iN, hiN, hzN0, hzN1, hzN2⟩ := info_parts infoNode
  have hkt := hk.tr
  have cK := fun w => clearI_any k.set w hk.set
  obtain ⟨hb2, hb3, hb4⟩ := clr_le hk.set
  have ec : k.c = clr k.set := rfl
  have hpl := hk.len
  have hrt := fun (wq : World) (hu : Up w wq) => hr.up hu
  obtain ⟨a, cap, rfl, hc1, hc2, hc3, hsome⟩ := hr
  unfold maxLen at hc2
  simp only [kV]
  go_enter Tryz.func135, Tryz.ntmps135
  go_wp2_with (first | (go_at_call 137; (with_reducible refine (cK _).mono ?_); rintro e w1 ⟨rfl, U1⟩; have B1 := bcell U1; have Z1 := U1.size; (try simp at Z1); (try rw [Nat.add_one_le_iff] at Z1)) | fail)
  have hkn : KnAt w.heap.size k (.slice a k.ps.length cap) w1 := box_up U1 (box_up ((Up.refl _).alloc _) (MapKept.heap_alloc w _).1)
  have hbx : TrBox (w.heap.size + 1) k (.slice none 0 0) (.slice none 0 0) (.slice none 0 0) w1 := box_up U1 (alloc2 w _ _)
  have hU1 : Up w w1 := by (repeat (first | with_reducible exact Up.refl _ | with_reducible assumption | with_reducible refine Up.set ?_ (by first | exact Nat.le_refl _ | (simp only []; omega) | (simp; omega)) _ | with_reducible refine Up.alloc ?_ _ | with_reducible refine Up.drew ?_ | refine Up.trans ?_ (by with_reducible assumption)))
  clear U1 B1
  go_loopw [17] (fun i wr => RelNt1 k (.slice a k.ps.length cap) w i wr) (fun i _ => clr k.set - (intOf i).toNat)
  case atStart => exact ⟨0, .slice none 0 0, rfl, Nat.zero_le _, hkn, hbx, World.ownsRow_nil _ _ _ _, hU1⟩
  case round =>
    clear hkn hbx hU1
    obtain ⟨b, vn, rfl, hN⟩ := hrel
    obtain ⟨hble, hkn, hbx, hrow, hup⟩ := hN
    obtain ⟨an, cn, rfl⟩ := ownsRow_shape hrow
    have hfr := box_free hbx
    have hfk := box_free hkn
    have htb := (Array.getElem?_eq_some_iff.1 hbx).1
    obtain ⟨k0, q0, q1, q2, q3, q4, q5⟩ := hkn.cells
    have hne1 : ¬ w.heap.size = w.heap.size + 1 := by omega
    have hsz := hup.size
    by_cases hlt : b < clr k.set
    · have hbm : (b : Int) % 256 = b := by omega
      have hb255 : (b : Int) ≤ 255 := by omega
      obtain ⟨c0, c1, c2, c3, c4, c5, c6, c7⟩ := TrBox.cells hbx
      have hneB : some (w.heap.size + 1) ≠ Value.ownBlock (.slice an b cn) := box_ne hbx hrow (by decide)
      have hneK : some w.heap.size ≠ Value.ownBlock (.slice an b cn) := box_ne hkn hrow (by decide)
      have HN := Lib.hid (And.intro hbx (And.intro hkn (And.intro hrow (And.intro hneB hneK))))
      clear hbx hkn hneB hneK
      go_wp2_with (at_builtin; refine wpList_append_own _ rfl _ _ 158 rfl w.heap.size 181 iN (.agg #[.int .i64 0, .int .i64 0, .int .i64 0, .int .u8 0, .int .u8 0, .int .i64 0]) 6 40 Tryz.underlying158 hiN hzN0 hzN1 hzN2 rfl (by decide) _ _ _ rfl (hrow.alloc _) ⟨wr.heap.size, 0, none⟩ 1 1 (litC1 b) rfl rfl (new_cells (litC1 b) _ rfl) (litC_one b) (by unfold maxLen; omega) (by omega) (by simp; omega) ?_; rintro v2 w2 hown2 hgr2 -; obtain ⟨a2, cc2, rfl⟩ := ownsRow_shape hown2; obtain ⟨c0, c1, c2, c3, c4, c5, c6, c7⟩ := TrBox.cells (gbox hgr2 (box_up ((Up.refl _).alloc _) HN.out.1) HN.out.2.2.2.1); have hfr := box_free (gbox hgr2 (box_up ((Up.refl _).alloc _) HN.out.1) HN.out.2.2.2.1); have HO := Lib.hid (And.intro hown2 hgr2); clear hown2 hgr2)
      go_roundw
      case rel =>
        obtain ⟨hown2, hgr2⟩ := HO.out
        have hb2' : TrBox (w.heap.size + 1) k (.slice none 0 0) (.slice an b cn) (.slice none 0 0) w2 := gbox hgr2 (box_up ((Up.refl _).alloc _) HN.out.1) HN.out.2.2.2.1
        refine ⟨b + 1, .slice a2 (b + 1) cc2, by go_num, by omega, ?_, box_set hb2' 6 _, ?_, ?_⟩
        · exact box_oth (gbox hgr2 (box_up ((Up.refl _).alloc _) HN.out.2.1) HN.out.2.2.2.2) (p := ⟨w.heap.size + 1, 6, none⟩) hne1 _
        · rw [litC_succ]; exact ownsRow_setb hown2 (box_ne hb2' hown2 (by decide)) 6 _
        · exact ((hup.alloc _).grown hgr2 (fun x hx => (HN.out.2.2.1.lt x hx).1)).set (p := ⟨w.heap.size + 1, 6, none⟩) (Nat.le_succ _) _
      case measure => simp [intOf]; omega
    · have e : b = clr k.set := by omega
      have hrow' : wr.ownsRow w.heap.size 181 6 (.slice an b cn) (k.upto 0).tree.ns.length (cellsN (k.upto 0).tree.ns) := by
        have e2 : (k.upto 0).tree = ⟨litsN (clr k.set), []⟩ := rfl
        rw [e2]
        show wr.ownsRow _ _ _ _ (litsN (clr k.set)).length _
        rw [litsN_length, ← litC_all, ← e]
        exact hrow
      have hT0 : TreeAt w.heap.size (w.heap.size + 1) (k.upto 0) (.slice none 0 0) (.slice an b cn) (.slice none 0 0) wr := ⟨hbx, Nat.le_succ _, World.ownsRow_nil _ _ _ _, hrow', World.ownsRow_nil _ _ _ _⟩
      have HK := Lib.hid (And.intro hkn (And.intro hT0 hup))
      clear e hrow hrow' hbx hT0 hkn
      go_wp2
      go_loopw [39] (fun i wr => RelNt2 k (.slice a k.ps.length cap) w i wr) (fun i _ => k.ps.length - (intOf i).toNat)
      case atStart => exact ⟨0, _, _, _, rfl, Nat.zero_le _, HK.out.1, HK.out.2.1, HK.out.2.2⟩
      case round =>
        clear HK hup hfr hfk htb k0 q0 q1 q2 q3 q4 q5 hne1 hsz
        obtain ⟨j, vp, vn, vi, rfl, hN⟩ := hrel
        obtain ⟨hjl, hkn, hT, hup⟩ := hN
        by_cases hlt : j < k.ps.length
        · obtain ⟨hpo, hpb0, hpb1⟩ := hk.ps.get hlt
          obtain ⟨bb, off, rfl, hlo, hbl, hcells⟩ := hsome (by omega)
          obtain ⟨q0, q1⟩ := hcells j k.ps[j] (List.getElem?_eq_getElem hlt)
          have r0 := (hup.cell (p := ⟨bb, off + j * 2, none⟩) hbl).trans q0
          have r1 := (hup.cell (p := ⟨bb, off + j * 2 + 1, none⟩) hbl).trans q1
          have hut : (k.upto j).ps.length = j := by unfold KnD.upto; simp only [List.length_take]; omega
          have cL := fun wq hT => learnT_any w.heap.size (w.heap.size + 1) (k.upto j) vp vn vi k.ps[j] wq hT (KnD.upto_tr hkt j) (by rw [hut]; exact hpo) hpb0 hpb1 (by unfold KnD.next; rw [hut]; show k.c + 2 + j ≤ lastC k.set; omega)
          have hadd := KnD.upto_add hlt
          have HT := Lib.hid (And.intro hkn (And.intro hT hup))
          have HADD := Lib.hid hadd
          clear hcells q0 q1 hkn hT hut hadd
          have hbl2 := Nat.lt_of_lt_of_le hbl hup.size
          go_wp2_with fail
          with_reducible refine (cL _ (HT.out.2.1.up (Up.alloc (Up.refl _) _))).mono ?_
          rintro e w2 ⟨⟨vv, rfl⟩, hP⟩
          go_wp2
          go_roundw
          case rel =>
            obtain ⟨hkn, hT, hup⟩ := HT.out
            obtain ⟨vp', vn', vi', hT', hfr', hO'⟩ := hP
            rw [HADD.out] at hT'
            have hTa := hT.up (Up.alloc (Up.refl wr) (.cells #[.int .i64 k.ps[j].pre, .int .i64 k.ps[j].byt] 176))
            have hkna := box_up (Up.alloc (Up.refl wr) (.cells #[.int .i64 k.ps[j].pre, .int .i64 k.ps[j].byt] 176)) hkn
            exact ⟨j + 1, vp', vn', vi', by go_num, by omega, hfr'.box hkna (hTa.not_own hkna (by decide) (by decide) (by decide) (by decide)), hT', Fr.upto (hup.alloc _) hfr' (fun b hb => (hTa.own_lo b hb).1)⟩
          case measure => simp [intOf]; omega
        · have e : j = k.ps.length := by omega
          rw [e, KnD.upto_all] at hT
          have HT := Lib.hid (And.intro hT hup)
          clear hkn hT
          go_wp2
          go_ret
          exact ⟨_, vp, vn, vi, rfl, HT.out.1, HT.out.2⟩

end Go.Proofs.YtekbbnkkninolaaGreat

/- Walk of the program's longest, which finds the longest word with which data begins. Conditions: the tree lies in memory, what is known is valid, the data are literals. -/
namespace Go.Proofs.YtekbbnkkninolaaGreat
set_option linter.unusedVariables false
set_option linter.unusedSimpArgs false
open Go Go.RowKit

/-- Where the search stands. -/
structure LgAt (k : KnD) (d : List UInt8) (n size : Nat) : Prop where
  lt : n < k.tree.ns.length
  pos : 1 ≤ size
  le : size ≤ d.length
  word : k.word (nodAt k.tree.ns n).cod = d.take size
def RelLg (k : KnD) (d : List UInt8) (w : World) (x s c : Value) (wr : World) : Prop := ∃ n size : Nat, x = .int .i64 n ∧ s = .int .i64 size ∧ LgAt k d n size ∧ w = wr

theorem LgAt.start {k : KnD} (hk : k.Ok) {d : List UInt8} (hd : d ≠ []) (hl : ∀ b ∈ d, b.toNat < k.c) : LgAt k d (d.getD 0 0).toNat 1 := by
  cases d with
  | nil => exact absurd rfl hd
  | cons b l =>
    have hb := hl b (List.mem_cons_self ..)
    have hT := hk.tree
    have hlo := hT.lo
    simp only [List.getD_cons_zero]
    refine ⟨by omega, Nat.le_refl _, by simp, ?_⟩
    rw [hT.lit _ hb]
    show wordP k.c k.ps (b.toNat : Int) = _
    rw [wordP_lit (by omega), ub_self]
    simp
theorem LgAt.step {k : KnD} (hk : k.Ok) {d : List UInt8} {n size j : Nat} (h : LgAt k d n size) (hs : size < d.length) (hj : findCh k.tree.ns n ((d[size]'hs).toNat : Int) k.tree.ns.length = j) : LgAt k d j (size + 1) := by
  have hT := hk.tree
  rcases findCh_cases k.tree.ns n ((d[size]'hs).toNat : Int) k.tree.ns.length with ⟨h1, _⟩ | ⟨i, h1, h2, h3, h4⟩
  · omega
  · have e : i = j := by omega
    subst e
    have hc : k.c ≤ i := by
      rcases Nat.lt_or_ge i k.c with hl | hl
      · rw [hT.lit i hl] at h3; simp only [] at h3; omega
      · exact hl
    have hw := hT.word i hc h1
    rw [h3, Int.toNat_natCast, h4, ub_self] at hw
    refine ⟨h1, by omega, hs, ?_⟩
    show wordP k.c k.ps (nodAt k.tree.ns i).cod = _
    rw [hw, List.take_succ_eq_append_getElem hs]
    have := h.word
    unfold KnD.word at this
    rw [this]

set_option maxRecDepth 100000 in
set_option maxHeartbeats 8000000 in
theorem longest_any (lo tb : Nat) (k : KnD) (vp vn vi : Value) (s : ByteArray) (w : World) (h : TreeAt lo tb k vp vn vi w) (hk : k.Ok) (hs : 0 < s.size) (hs2 : s.size ≤ 1073741824) (hl : ∀ b ∈ s.data.toList, b.toNat < k.c) :
    Calls Tryz.prog 139  #[.pointer (some ⟨tb, 0, none⟩), .string s] w (Same (.tuple #[.int .i64 (k.find (k.longest s.data.toList)), .int .i64 (k.longest s.data.toList).length]) w) := by
  have hkt := hk.tr
  have cC := fun n b hn => child_any lo tb k vp vn vi n b w h hkt hn
  have hsl := ba_len s
  have hd : s.data.toList ≠ [] := fun e => by rw [e] at hsl; simp at hsl; omega
  have hst := LgAt.start hk hd hl
  have hu0 := u8_bd s[0]
  have e0 : s.data.toList.getD 0 0 = s[0] := by
    rw [List.getD_eq_getElem?_getD, List.getElem?_eq_getElem (by omega)]; rfl
  rw [e0] at hst
  have HL := Lib.hid hl
  have hns : k.tree.ns.length ≤ 2000 := by have := hkt.tree.hi; have := hkt.len; have := hkt.c_bd; omega
  obtain ⟨X, hX⟩ : ∃ X, X = k.find (k.longest s.data.toList) := ⟨_, rfl⟩
  obtain ⟨Y, hY⟩ : ∃ Y : Int, Y = (k.longest s.data.toList).length := ⟨_, rfl⟩
  rw [← hX, ← hY]
  have HX := Lib.hid hX
  have HY := Lib.hid hY
  have hps : k.ps.length ≤ 100000 := by have := hkt.len; have := hkt.c_bd; omega
  clear e0 hd hl hX hY
  go_enter Tryz.func139, Tryz.ntmps139
  go_wp2
  go_loopw [6, 7, 8] (fun x z c wr => RelLg k s.data.toList w x z c wr) (fun _ z _ _ => s.size - (intOf z).toNat)
  case atStart => exact ⟨s[0].toNat, 1, rfl, rfl, hst, rfl⟩
  case round =>
    obtain ⟨n, size, rfl, rfl, hA, rfl⟩ := hrel
    have HA := Lib.hid hA
    obtain ⟨h1, h2, h3, -⟩ := hA
    rw [hsl] at h3
    clear hst
    by_cases hlt : size < s.size
    · have hb := u8_bd s[size]
      have eb : s[size] = s.data.toList[size]'(by rw [hsl]; exact hlt) := rfl
      have cCb := cC n (s[size].toNat : Int) h1
      by_cases hf : findCh k.tree.ns n (s[size].toNat : Int) k.tree.ns.length < 0
      · skip
        obtain ⟨c0, c1, c2, c3, c4, c5, c6, c7⟩ := h.cells
        have hfr := box_free h.box
        have htb := h.lt
        obtain ⟨g, cap, nx, rfl, hg1, hg2, hg3, hg4, hg5, d0, d1, d2, d3, d4, d5⟩ := h.node1 hkt h1
        obtain ⟨ap, cp, rfl⟩ := h.shape
        unfold maxLen at hg2
        have cG := fun w => growI_any k.set k.base k.last ap k.ps.length cp w hk.set (by omega)
        have cX := fun w => nextI_any k.set k.base k.last ap k.ps.length cp w hk.set (by omega)
        rw [growN_eq] at cG
        have cN := fun w hT hl => nodeOf_any lo tb k (.slice ap k.ps.length cp) (.slice (some ⟨g, 0, none⟩) k.tree.ns.length cap) vi k.last w hT hkt hl
        have H := Lib.hid h
        have en : Hid (((clr k.set : Int) + 2 + k.ps.length) = (k.next : Nat)) := by unfold Hid KnD.next KnD.c; omega
        simp only [knV] at cG cX
        clear h
        have hm1 : findCh k.tree.ns n (s[size].toNat : Int) k.tree.ns.length = -1 := by have := findCh_bd k.tree.ns n (s[size].toNat : Int) k.tree.ns.length; omega
        have hgs : s.data.toList[size]? = some s[size] := by rw [List.getElem?_eq_getElem (by rw [hsl]; exact hlt)]; rfl
        have hres := KnD.deep_longest hk HL.out h1 h2 (by rw [hsl]; omega) HA.out.word (.inr ⟨s[size], hgs, hm1⟩)
        rw [hm1] at cCb
        clear hf hm1 eb cC
        have hcf := (hkt.tree.bytes n h1).2.2
        by_cases hg : k.grow = true
        · rw [hg] at cG
          by_cases hno : n = nodeOf k.c k.tree k.last
          · by_cases hfi : (s[size].toNat : Int) = (nodAt k.tree.ns n).fir
            · rw [if_pos ⟨_, hgs, hg, hno, hfi⟩] at hres
              have hx := HX.out.trans hres.1
              have hy := HY.out.trans (congrArg Int.ofNat hres.2)
              rw [← hno] at cN
              rw [← hfi] at d4
              clear hres hgs hfi hno HX HY
              go_wp2_with (first | (go_at_call 171; (with_reducible refine cCb.mono ?_); rintro e w' ⟨rfl, rfl⟩) | fail)
              refine wp_region_up 36 (by kernel_rfl) (by kernel_rfl) ?_
              simp only [List.take, List.drop]
              repeat (refine wpUp_step (fun K hK => ?_); go_simp; (try simp only [↓IntWalk.iteOmega]); first
                | (refine hK _ _ ?_; clear hK K)
                | (apply stepU_c
                   · intro wq hwq; (have hbq := bcell hwq; (repeat (first | refine fills_no (by rfl) ?_ | refine fills_yes (by rfl) (fun vq hvq => ?_))); simp only [List.filter_nil, fills]; unfold upAt; go_simp; (try go_bits); (try simp only [↓IntWalk.iteOmega]); (try (rw [dif_pos (by omega)]; go_simp; try go_bits)); first | exact upOut_value | (apply upOut_call; (go_at_call 138; exact cG _)) | (apply upOut_eq; (go_at_call 138; exact cG _)) | (apply upOut_call; (go_at_call 169; exact cN _ (H.out.up hwq) (hk.lastOk hg))) | (apply upOut_eq; (go_at_call 169; exact cN _ (H.out.up hwq) (hk.lastOk hg))))
                   go_simp; refine hK _ _ ?_; clear hK K))
              refine wpUp_nil (fun wq hwq => ?_)
              simp only [fills]
              have BQ := bcell hwq
              go_wp2_with (first | (go_at_call 168; (with_reducible refine (cX _).mono ?_); rintro e w9 ⟨rfl, U9⟩; have B9 := bcell U9; have Z9 := U9.size; (try simp at Z9); (try rw [Nat.add_one_le_iff] at Z9)) | fail)
              go_ret2
              refine ⟨?_, by (repeat (first | with_reducible exact Up.refl _ | with_reducible assumption | with_reducible refine Up.set ?_ (by first | exact Nat.le_refl _ | (simp only []; omega) | (simp; omega)) _ | with_reducible refine Up.alloc ?_ _ | with_reducible refine Up.drew ?_ | refine Up.trans ?_ (by with_reducible assumption)))⟩
              rw [hx, hy]
              rw [en.out]; rfl
            · rw [if_neg (fun ⟨b, hb1, _, _, hb2⟩ => hfi (by rw [hgs] at hb1; cases hb1; exact hb2))] at hres
              have hx := HX.out.trans hres.1
              have hy := HY.out.trans (congrArg Int.ofNat hres.2)
              rw [← hno] at cN
              clear hres hgs hno HX HY
              go_wp2_with (first | (go_at_call 171; (with_reducible refine cCb.mono ?_); rintro e w' ⟨rfl, rfl⟩) | fail)
              refine wp_region_up 36 (by kernel_rfl) (by kernel_rfl) ?_
              simp only [List.take, List.drop]
              repeat (refine wpUp_step (fun K hK => ?_); go_simp; (try simp only [↓IntWalk.iteOmega]); first
                | (refine hK _ _ ?_; clear hK K)
                | (apply stepU_c
                   · intro wq hwq; (have hbq := bcell hwq; (repeat (first | refine fills_no (by rfl) ?_ | refine fills_yes (by rfl) (fun vq hvq => ?_))); simp only [List.filter_nil, fills]; unfold upAt; go_simp; (try go_bits); (try simp only [↓IntWalk.iteOmega]); (try (rw [dif_pos (by omega)]; go_simp; try go_bits)); first | exact upOut_value | (apply upOut_call; (go_at_call 138; exact cG _)) | (apply upOut_eq; (go_at_call 138; exact cG _)) | (apply upOut_call; (go_at_call 169; exact cN _ (H.out.up hwq) (hk.lastOk hg))) | (apply upOut_eq; (go_at_call 169; exact cN _ (H.out.up hwq) (hk.lastOk hg))))
                   go_simp; refine hK _ _ ?_; clear hK K))
              refine wpUp_nil (fun wq hwq => ?_)
              simp only [fills]
              have BQ := bcell hwq
              go_wp2
              go_ret2
              refine ⟨?_, by (repeat (first | with_reducible exact Up.refl _ | with_reducible assumption | with_reducible refine Up.set ?_ (by first | exact Nat.le_refl _ | (simp only []; omega) | (simp; omega)) _ | with_reducible refine Up.alloc ?_ _ | with_reducible refine Up.drew ?_ | refine Up.trans ?_ (by with_reducible assumption)))⟩
              rw [hx, hy]
              rfl
          · rw [if_neg (fun ⟨b, _, _, hb1, _⟩ => hno hb1)] at hres
            have hx := HX.out.trans hres.1
            have hy := HY.out.trans (congrArg Int.ofNat hres.2)
            have hno2 : ¬ ((n : Nat) : Int) = ((nodeOf k.c k.tree k.last : Nat) : Int) := by omega
            clear hres hgs HX HY
            go_wp2_with (first | (go_at_call 171; (with_reducible refine cCb.mono ?_); rintro e w' ⟨rfl, rfl⟩) | fail)
            refine wp_region_up 36 (by kernel_rfl) (by kernel_rfl) ?_
            simp only [List.take, List.drop]
            repeat (refine wpUp_step (fun K hK => ?_); go_simp; (try simp only [↓IntWalk.iteOmega]); first
              | (refine hK _ _ ?_; clear hK K)
              | (apply stepU_c
                 · intro wq hwq; (have hbq := bcell hwq; (repeat (first | refine fills_no (by rfl) ?_ | refine fills_yes (by rfl) (fun vq hvq => ?_))); simp only [List.filter_nil, fills]; unfold upAt; go_simp; (try go_bits); (try simp only [↓IntWalk.iteOmega]); (try (rw [dif_pos (by omega)]; go_simp; try go_bits)); first | exact upOut_value | (apply upOut_call; (go_at_call 138; exact cG _)) | (apply upOut_eq; (go_at_call 138; exact cG _)) | (apply upOut_call; (go_at_call 169; exact cN _ (H.out.up hwq) (hk.lastOk hg))) | (apply upOut_eq; (go_at_call 169; exact cN _ (H.out.up hwq) (hk.lastOk hg))))
                 go_simp; refine hK _ _ ?_; clear hK K))
            refine wpUp_nil (fun wq hwq => ?_)
            simp only [fills]
            have BQ := bcell hwq
            go_wp2
            go_ret2
            refine ⟨?_, by (repeat (first | with_reducible exact Up.refl _ | with_reducible assumption | with_reducible refine Up.set ?_ (by first | exact Nat.le_refl _ | (simp only []; omega) | (simp; omega)) _ | with_reducible refine Up.alloc ?_ _ | with_reducible refine Up.drew ?_ | refine Up.trans ?_ (by with_reducible assumption)))⟩
            rw [hx, hy]
            rfl
        · rw [if_neg (fun ⟨b, _, hb1, _⟩ => hg hb1)] at hres
          have hx := HX.out.trans hres.1
          have hy := HY.out.trans (congrArg Int.ofNat hres.2)
          have hg2' : k.grow = false := by simpa using hg
          rw [hg2'] at cG
          clear hres hgs HX HY hg
          go_wp2_with (first | (go_at_call 171; (with_reducible refine cCb.mono ?_); rintro e w' ⟨rfl, rfl⟩) | fail)
          refine wp_region_up 36 (by kernel_rfl) (by kernel_rfl) ?_
          simp only [List.take, List.drop]
          repeat (refine wpUp_step (fun K hK => ?_); go_simp; (try simp only [↓IntWalk.iteOmega]); first
            | (refine hK _ _ ?_; clear hK K)
            | (apply stepU_c
               · intro wq hwq; (have hbq := bcell hwq; (repeat (first | refine fills_no (by rfl) ?_ | refine fills_yes (by rfl) (fun vq hvq => ?_))); simp only [List.filter_nil, fills]; unfold upAt; go_simp; (try go_bits); (try simp only [↓IntWalk.iteOmega]); (try (rw [dif_pos (by omega)]; go_simp; try go_bits)); first | exact upOut_value | (apply upOut_call; (go_at_call 138; exact cG _)) | (apply upOut_eq; (go_at_call 138; exact cG _)))
               go_simp; refine hK _ _ ?_; clear hK K))
          refine wpUp_nil (fun wq hwq => ?_)
          simp only [fills]
          have BQ := bcell hwq
          go_wp2
          go_ret2
          refine ⟨?_, by (repeat (first | with_reducible exact Up.refl _ | with_reducible assumption | with_reducible refine Up.set ?_ (by first | exact Nat.le_refl _ | (simp only []; omega) | (simp; omega)) _ | with_reducible refine Up.alloc ?_ _ | with_reducible refine Up.drew ?_ | refine Up.trans ?_ (by with_reducible assumption)))⟩
          rw [hx, hy]
          rfl
      · obtain ⟨j, hj⟩ : ∃ j : Nat, findCh k.tree.ns n (s[size].toNat : Int) k.tree.ns.length = j := ⟨(findCh k.tree.ns n (s[size].toNat : Int) k.tree.ns.length).toNat, by omega⟩
        have HS := Lib.hid (HA.out.step hk (by rw [hsl]; exact hlt) (by rw [← eb]; exact hj))
        rw [hj] at cCb
        clear hf hj eb
        go_wp2_with (go_at_call 171; (with_reducible refine cCb.mono ?_); rintro e w' ⟨rfl, rfl⟩)
        go_roundw
        case rel => exact ⟨j, size + 1, rfl, by go_num, HS.out, rfl⟩
        case measure => simp [intOf]; omega
    · skip
      obtain ⟨c0, c1, c2, c3, c4, c5, c6, c7⟩ := h.cells
      have hfr := box_free h.box
      have htb := h.lt
      obtain ⟨g, cap, nx, rfl, hg1, hg2, hg3, hg4, hg5, d0, d1, d2, d3, d4, d5⟩ := h.node1 hkt h1
      obtain ⟨ap, cp, rfl⟩ := h.shape
      unfold maxLen at hg2
      have cG := fun w => growI_any k.set k.base k.last ap k.ps.length cp w hk.set (by omega)
      have cX := fun w => nextI_any k.set k.base k.last ap k.ps.length cp w hk.set (by omega)
      rw [growN_eq] at cG
      have cN := fun w hT hl => nodeOf_any lo tb k (.slice ap k.ps.length cp) (.slice (some ⟨g, 0, none⟩) k.tree.ns.length cap) vi k.last w hT hkt hl
      have H := Lib.hid h
      have en : Hid (((clr k.set : Int) + 2 + k.ps.length) = (k.next : Nat)) := by unfold Hid KnD.next KnD.c; omega
      simp only [knV] at cG cX
      clear h
      have hse : size = s.size := by omega
      have hres := KnD.deep_longest hk HL.out h1 h2 (by rw [hsl]; omega) HA.out.word (.inl (by rw [hsl]; exact hse))
      rw [if_neg (fun ⟨b, hb1, _⟩ => by have := (List.getElem?_eq_some_iff.1 hb1).1; omega)] at hres
      have hx := HX.out.trans hres.1
      have hy := HY.out.trans (congrArg Int.ofNat hres.2)
      subst hse
      clear hres cC HX HY
      go_wp2
      refine wp_region_up 36 (by kernel_rfl) (by kernel_rfl) ?_
      simp only [List.take, List.drop]
      repeat (refine wpUp_step (fun K hK => ?_); go_simp; (try simp only [↓IntWalk.iteOmega]); first
        | (refine hK _ _ ?_; clear hK K)
        | (apply stepU_c
           · intro wq hwq; (have hbq := bcell hwq; (repeat (first | refine fills_no (by rfl) ?_ | refine fills_yes (by rfl) (fun vq hvq => ?_))); simp only [List.filter_nil, fills]; unfold upAt; go_simp; (try go_bits); (try simp only [↓IntWalk.iteOmega]); (try (rw [dif_pos (by omega)]; go_simp; try go_bits)); first | exact upOut_value)
           go_simp; refine hK _ _ ?_; clear hK K))
      refine wpUp_nil (fun wq hwq => ?_)
      simp only [fills]
      have BQ := bcell hwq
      go_wp2
      go_ret2
      refine ⟨?_, by (repeat (first | with_reducible exact Up.refl _ | with_reducible assumption | with_reducible refine Up.set ?_ (by first | exact Nat.le_refl _ | (simp only []; omega) | (simp; omega)) _ | with_reducible refine Up.alloc ?_ _ | with_reducible refine Up.drew ?_ | refine Up.trans ?_ (by with_reducible assumption)))⟩
      rw [hx, hy]
      rfl

end Go.Proofs.YtekbbnkkninolaaGreat

/- Walk of the program's greedy. Conditions: what is known is valid and can be read; the data fits. -/
namespace Go.Proofs.YtekbbnkkninolaaGreat
set_option linter.unusedVariables false
set_option linter.unusedSimpArgs false
open Go Go.RowKit

theorem TreeAt.base {lo lo' tb : Nat} {k : KnD} {vp vn vi : Value} {w : World} (h : TreeAt lo tb k vp vn vi w) (hl : lo' ≤ lo) : TreeAt lo' tb k vp vn vi w := ⟨h.box, Nat.le_trans hl h.low, ownsRow_base h.prs hl, ownsRow_base h.nod hl, ownsRow_base h.idx hl⟩
/-- The memory of greedy: the tree, and the row of codes. -/
structure GiW (w : World) (tb : Nat) (k : KnD) (vp vn vi vc : Value) (acc : List Int) (wr : World) : Prop where
  tree : TreeAt w.heap.size tb k vp vn vi wr
  own : ownI wr w.heap.size vc acc
  sep : ∀ b, vc.ownBlock = some b → ¬ Own tb vp vn vi b
  up : Up w wr
theorem GiW.upd {w : World} {tb : Nat} {k : KnD} {vp vn vi vc : Value} {acc : List Int} {wr w' : World} (h : GiW w tb k vp vn vi vc acc wr) (hu : Up wr w') : GiW w tb k vp vn vi vc acc w' := ⟨h.tree.up hu, ownsRow_up h.own hu, h.sep, h.up.trans hu⟩
theorem GiW.tr {w : World} {tb : Nat} {k k' : KnD} {vp vn vi vc : Value} {acc : List Int} {wr w' : World} (h : GiW w tb k vp vn vi vc acc wr) (hp : TrPost w.heap.size tb k' vp vn vi wr w') : ∃ vp' vn' vi', GiW w tb k' vp' vn' vi' vc acc w' := by
  obtain ⟨vp', vn', vi', hT, hF, hO⟩ := hp
  refine ⟨vp', vn', vi', hT, hF.row h.own h.sep, ?_, Fr.upto h.up hF (fun b hb => (h.tree.own_lo b hb).1)⟩
  intro b hb ho
  rcases hO b ho with h1 | h1
  · exact h.sep b hb h1
  · have := (h.own.lt b hb).2; omega
theorem GiW.app {w : World} {tb : Nat} {k : KnD} {vp vn vi vc : Value} {acc : List Int} {wr w' : World} (h : GiW w tb k vp vn vi vc acc wr) {o : Obj} {x : Int} {v' : Value} (hv : w'.ownsRow w.heap.size 3 1 v' (acc.length + 1) (cellsI acc ++ [.int .i64 x])) (hg : (wr.alloc o).grownBy w' vc.ownBlock) (hn : NewOr (wr.alloc o).heap.size vc v') : GiW w tb k vp vn vi v' (acc ++ [x]) w' := by
  have hA := h.upd (Up.alloc (Up.refl wr) o)
  have hFr : Fr (fun b => vc.ownBlock = some b) (wr.alloc o) w' := (Fr.refl _ _).gr hg (fun b hb => .inl hb)
  refine ⟨hA.tree.fr hFr (fun b hb e => hA.sep b e hb), ?_, ?_, hA.up.grown hg (fun b hb => (hA.own.lt b hb).1)⟩
  · rw [← cellsI_snoc] at hv
    exact ownsRow_n hv (by simp)
  · intro b hb ho
    rcases hn b hb with h1 | h1
    · exact hA.sep b h1 ho
    · have := (hA.tree.own_lo b ho).2; omega
/-- The plain state at a round's beginning, and behind the clear code of a round. -/
structure GiD (T : List Int) (k0 : KnD) (m : Nat) (k : KnD) (d : List UInt8) (acc : List Int) : Prop where
  len : d.length ≤ m
  le : d.length ≤ 2000
  sum : acc.length + 2 * d.length ≤ 4001
  tot : acc ++ (if k.full = true ∧ d ≠ [] then (k.c : Int) :: greedyN m k.cleared d else greedyN m k d) = T
  ok : k.Ok
  set : k.set = k0.set
  lit : ∀ b ∈ d, b.toNat < k0.c
structure GiE (T : List Int) (k0 : KnD) (m : Nat) (k : KnD) (d : List UInt8) (acc : List Int) : Prop where
  len : d.length ≤ m
  le : d.length ≤ 2000
  sum : acc.length + 2 * d.length ≤ 4002
  tot : acc ++ greedyN m k d = T
  ok : k.Ok
  set : k.set = k0.set
  lit : ∀ b ∈ d, b.toNat < k0.c
theorem c_of {k k0 : KnD} (h : k.set = k0.set) : k.c = k0.c := by unfold KnD.c; rw [h]
theorem GiD.nil {T : List Int} {k0 : KnD} {m : Nat} {k : KnD} {acc : List Int} (h : GiD T k0 m k [] acc) : acc ++ [(clr k0.set : Int) + 1] = T := by
  have h1 := h.tot
  rw [if_neg (fun h => h.2 rfl), greedyN_nil, c_of h.set] at h1
  exact h1
theorem GiD.full {T : List Int} {k0 : KnD} {m : Nat} {k : KnD} {d : List UInt8} {acc : List Int} (h : GiD T k0 m k d acc) (hd : d ≠ []) (hf : k.full = true) : GiE T k0 m k.cleared d (acc ++ [(clr k0.set : Int)]) := by
  have h1 := h.tot
  rw [if_pos ⟨hf, hd⟩, c_of h.set] at h1
  exact ⟨h.len, h.le, by have := h.sum; simp; omega, by rw [List.append_assoc]; exact h1, KnD.cleared_ok h.ok, h.set, h.lit⟩
theorem GiD.more {T : List Int} {k0 : KnD} {m : Nat} {k : KnD} {d : List UInt8} {acc : List Int} (h : GiD T k0 m k d acc) (hf : k.full = false) : GiE T k0 m k d acc := by
  have h1 := h.tot
  rw [if_neg (fun h => by rw [hf] at h; cases h.1)] at h1
  exact ⟨h.len, h.le, by have := h.sum; omega, h1, h.ok, h.set, h.lit⟩
theorem GiE.step {T : List Int} {k0 : KnD} {m : Nat} {k : KnD} {d : List UInt8} {acc : List Int} (h : GiE T k0 m k d acc) (hd : d ≠ []) :
    k.follows (k.find (k.longest d)) = true ∧ ¬ k.find (k.longest d) = (k.c : Int) ∧ 1 ≤ (k.longest d).length ∧ (k.longest d).length ≤ d.length ∧ GiD T k0 (m - 1) (k.after (k.find (k.longest d))) (d.drop (k.longest d).length) (acc ++ [k.find (k.longest d)]) := by
  have hll := KnD.longest_le (k := k) d
  have hlp := KnD.longest_pos (k := k) hd
  have hl : ∀ b ∈ d, b.toNat < k.c := by rw [c_of h.set]; exact h.lit
  obtain ⟨hfw, -⟩ := KnD.find_any h.ok hd hl
  have hpos : 0 < d.length := List.length_pos_iff.2 hd
  have h1 := h.len; have h2 := h.le; have h3 := h.sum; have h4 := h.tot
  obtain ⟨n, rfl⟩ : ∃ n, m = n + 1 := ⟨m - 1, by omega⟩
  refine ⟨hfw, (KnD.fol_ne h.ok hfw).1, hlp, hll, by rw [List.length_drop]; omega, by rw [List.length_drop]; omega, by rw [List.length_drop, List.length_append]; simp; omega, ?_, KnD.after_ok h.ok hfw, h.set, fun b hb => h.lit b (List.mem_of_mem_drop hb)⟩
  rw [greedyN, if_neg hd] at h4
  rw [← h4, List.append_assoc]
  rfl
theorem GiD.start {k : KnD} {d : List UInt8} (hk : k.Ok) (hd : d.length ≤ 2000) (hl : ∀ b ∈ d, b.toNat < k.c) : GiD (greedy k d) k d.length k.cleared d [(clr k.set : Int)] := by
  have hf : k.cleared.full = false := by
    unfold KnD.full KnD.cleared
    have h0 := hk.base0
    have : ¬ k.base < ((k.ps.take k.base.toNat).length : Int) := by rw [List.length_take]; omega
    rw [Bool.and_eq_false_iff]; right
    exact decide_eq_false this
  refine ⟨Nat.le_refl _, hd, by simp; omega, ?_, KnD.cleared_ok hk, rfl, hl⟩
  rw [if_neg (fun h => by rw [hf] at h; cases h.1)]
  rfl
def RelGi (T : List Int) (k0 : KnD) (tb : Nat) (w : World) (t vc : Value) (wr : World) : Prop := ∃ (k : KnD) (d : List UInt8) (vp vn vi : Value) (m : Nat) (acc : List Int), t = .string (bs d) ∧ GiD T k0 m k d acc ∧ GiW w tb k vp vn vi vc acc wr

set_option maxRecDepth 100000 in
set_option maxHeartbeats 8000000 in
theorem greedy_any (k : KnD) (v : Value) (lo : Nat) (d : ByteArray) (w : World) (hk : k.Ok) (hr : RdP lo w v k.ps) (hd : d.size ≤ 2000) (hl : ∀ b ∈ d.data.toList, b.toNat < k.c) :
    Calls Tryz.prog 153  #[kV k v, .string d] w (IntsPost (greedy k d.data.toList) w) := by
  obtain ⟨i0, hi, hz0, hz1, hz2⟩ := info_parts infoIntG
  have hkt := hk.tr
  have cK := fun w => clearI_any k.set w hk.set
  have cE := fun w => endI_any k.set w hk.set
  obtain ⟨hb2, hb3, hb4⟩ := clr_le hk.set
  have hrt := fun (wq : World) (hu : Up w wq) => hr.up hu
  have cN := fun wq hr => newTree_any k v lo wq hk hr
  have HK := Lib.hid hk
  have hkb := And.intro hk.base0 hk.base1
  obtain ⟨a, cap, rfl, -, -, -, -⟩ := hr
  have HLl := Lib.hid hl
  have hdl := ba_len d
  clear hk hl
  simp only [kV] at *
  go_enter Tryz.func153, Tryz.ntmps153
  go_wp2
  refine wp_region_upf 6 (by kernel_rfl) (by kernel_rfl) ?_
  simp only [List.take, List.drop]
  repeat (refine wpUp_step (fun K hK => ?_); go_simp; (try simp only [↓IntWalk.iteOmega]); first
    | (refine hK _ _ ?_; clear hK K)
    | (apply stepU_c
       · intro wq hwq; (have hbq := bcell hwq; (repeat (first | refine fills_no (by rfl) ?_ | refine fills_yes (by rfl) (fun vq hvq => ?_))); simp only [List.filter_nil, fills]; unfold upAt; go_simp; (try go_bits); (try simp only [↓IntWalk.iteOmega]); (try (rw [dif_pos (by omega)]; go_simp; try go_bits)); first | exact upOut_value | (apply upOut_call; (go_at_call 137; exact cK _)) | (apply upOut_eq; (go_at_call 137; exact cK _)) | (apply upOut_call; (go_at_call 177; exact cE _)) | (apply upOut_eq; (go_at_call 177; exact cE _)))
       go_simp; refine hK _ _ ?_; clear hK K))
  refine wpUp_nil (fun wq hwq => ?_)
  simp only [fills]
  go_wp2
  rw [onlyN_normal]
  have hU0 : Up w wq := by (repeat (first | with_reducible exact Up.refl _ | with_reducible assumption | with_reducible refine Up.set ?_ (by first | exact Nat.le_refl _ | (simp only []; omega) | (simp; omega)) _ | with_reducible refine Up.alloc ?_ _ | with_reducible refine Up.drew ?_ | refine Up.trans ?_ (by with_reducible assumption)))
  have hkn : KnAt w.heap.size k (.slice a k.ps.length cap) wq := box_up hwq (MapKept.heap_alloc w _).1
  obtain ⟨b0, r0, r1, r2, r3, r4, r5⟩ := hkn.cells
  clear hkn hwq
  go_wp2_with fail
  with_reducible refine (cN _ (hrt _ hU0)).mono ?_
  rintro e w2 ⟨tb, vp, vn, vi, rfl, hT2, U2⟩
  have hT2' := hT2.base (lo' := w.heap.size) hU0.size
  have htb2 := hT2.lt
  have hU2 := hU0.trans U2
  have cF := followC_any w.heap.size tb k vp vn vi w2 hT2' hkt hkb.1 hkb.2
  rw [show k.c = clr k.set from rfl] at cF
  have HT2 := Lib.hid (And.intro hT2' hU2)
  clear hT2 hT2' hU2 cN hrt
  go_wp2_with fail
  with_reducible refine cF.mono ?_
  rintro e w3 ⟨⟨vv, rfl⟩, hP3⟩
  obtain ⟨vp3, vn3, vi3, hT3, hF3, -⟩ := hP3
  have hU3 := Fr.upto HT2.out.2 hF3 (fun b hb => (HT2.out.1.own_lo b hb).1)
  have htb3 := hT3.lt
  have hW3 : ∀ (vc : Value), vc = .slice (some ⟨w3.heap.size, 0, none⟩) 1 1 → GiW w tb k.cleared vp3 vn3 vi3 vc [(clr k.set : Int)] (w3.alloc (.cells #[.int .i64 (clr k.set)] 3)) := fun vc e => by
    subst e
    exact ⟨hT3.up (Up.alloc (Up.refl _) _), own_made1 w3 hU3.size, fun b hb ho => by have := (hT3.own_lo b ho).2; simp only [Value.ownBlock, Option.some.injEq] at hb; omega, hU3.alloc _⟩
  have HW3 := Lib.hid (hW3 _ rfl)
  clear hT3 hF3 hU3 hW3
  have HL : Hid (d = bs d.data.toList) := (bs_self d).symm
  generalize d.data.toList = L at *
  go_wp2
  go_loopw [1, 8] (fun t out wr => RelGi (greedy k L) k tb w t out wr) (fun t _ _ => slen t)
  case atStart =>
    exact ⟨k.cleared, L, vp3, vn3, vi3, L.length, _, congrArg Value.string HL.out, GiD.start HK.out (by omega) HLl.out, HW3.out⟩
  case round =>
    clear HL HW3 HT2 HLl hdl hd
    obtain ⟨k1, d, vp, vn, vi, m, acc, rfl, hD, hW⟩ := hrel
    obtain ⟨ac, cc, rfl⟩ := ownsRow_shape hW.own
    have hsum := hD.sum
    have hle := hD.le
    by_cases hde : d = []
    · subst hde
      have HT := Lib.hid hD.nil
      have HW := Lib.hid hW
      clear hD hW
      rw [show bs ([] : List UInt8) = (⟨#[]⟩ : ByteArray) from rfl]
      go_wp2_with (at_builtin; (refine wpList_append2 rfl _ _ 54 rfl w.heap.size 3 i0 (.int .i64 0) 1 8 Tryz.underlying54 hi hz0 hz1 hz2 rfl (by decide) _ _ _ rfl (ownsRow_up (HW.out).own (Up.alloc (Up.refl _) _)) ⟨(wr).heap.size, 0, none⟩ 1 1 [.int .i64 ((clr k.set : Int) + 1)] rfl rfl (new_cells [.int .i64 ((clr k.set : Int) + 1)] _ rfl) (by intro u hu; simp at hu; subst hu; rfl) (by unfold maxLen; omega) (by omega) (by have := (HW.out).up.size; simp; omega) ?_; rintro va wa hva hga hna; obtain ⟨aa, ca, rfl⟩ := ownsRow_shape hva; have HA := Lib.hid (And.intro hva (And.intro hga hna)); clear hva hga hna))
      go_ret
      have h4 := HW.out.app HA.out.1 HA.out.2.1 HA.out.2.2
      exact ⟨_, rfl, (by have := h4.own; rw [HT.out] at this; exact this), h4.up⟩
    · have HNE : (bs d).toList.isEmpty = false := by rw [Lib.toList_data, bs_data]; cases d with | nil => exact absurd rfl hde | cons _ _ => rfl
      have hpos : 0 < d.length := List.length_pos_iff.2 hde
      have hpl1 := hD.ok.nums.2.2.2.1
      obtain ⟨ap, cp, rfl⟩ := hW.tree.shape
      have cQ := fun w => fullI_any k1.set k1.base k1.last ap k1.ps.length cp w hD.ok.set (by omega)
      rw [fullN_eq] at cQ
      simp only [knV] at cQ
      have htb := hW.tree.lt
      obtain ⟨c0, c1, c2, c3, c4, c5, c6, c7⟩ := hW.tree.cells
      have hset := hD.set
      have hkt1 := hD.ok.tr
      have hb01 := And.intro hD.ok.base0 hD.ok.base1
      have HD := Lib.hid hD
      have HW := Lib.hid hW
      have HDE := Lib.hid hde
      clear hD hW hde
      by_cases hf : k1.full = true
      · rw [hf] at cQ
        have cF := fun wq hT => followC_any w.heap.size tb k1 (.slice ap k1.ps.length cp) vn vi wq hT hkt1 hb01.1 hb01.2
        rw [show k1.c = clr k.set from c_of hset] at cF
        have HE := Lib.hid (HD.out.full HDE.out hf)
        clear hf hset
        go_wp2_with (first | (go_at_call 180; (with_reducible refine (cQ _).mono ?_); rintro e w6 ⟨rfl, U6⟩; have B6 := bcell U6; have Z6 := U6.size; (try simp at Z6); (try rw [Nat.add_one_le_iff] at Z6)) | fail)
        with_reducible refine (cF _ (HW.out.upd U6).tree).mono ?_
        rintro e w7 ⟨⟨vv, rfl⟩, hP7⟩
        obtain ⟨vp7, vn7, vi7, hW7⟩ := (HW.out.upd U6).tr hP7
        have HW7 := Lib.hid hW7
        clear hP7 hW7 B6 Z6 c0 c1 c2 c3 c4 c5 c6 c7
        go_wp2_with (at_builtin; (refine wpList_append2 rfl _ _ 54 rfl w.heap.size 3 i0 (.int .i64 0) 1 8 Tryz.underlying54 hi hz0 hz1 hz2 rfl (by decide) _ _ _ rfl (ownsRow_up (HW7.out).own (Up.alloc (Up.refl _) _)) ⟨(w7).heap.size, 0, none⟩ 1 1 [.int .i64 (clr k.set : Int)] rfl rfl (new_cells [.int .i64 (clr k.set : Int)] _ rfl) (by intro u hu; simp at hu; subst hu; rfl) (by unfold maxLen; omega) (by omega) (by have := (HW7.out).up.size; simp; omega) ?_; rintro va wa hva hga hna; obtain ⟨aa, ca, rfl⟩ := ownsRow_shape hva; have HA := Lib.hid (And.intro hva (And.intro hga hna)); clear hva hga hna); have HW8 := Lib.hid (HW7.out.app HA.out.1 HA.out.2.1 HA.out.2.2); clear HA)
        generalize acc ++ [(clr k.set : Int)] = acc2 at *
        obtain ⟨hfw, hxc, hlp, hll, hD9⟩ := HE.out.step HDE.out
        have hok2 := HE.out.ok
        have hle2 := HE.out.le
        have hsum2 := HE.out.sum
        have cL := fun wq hT => longest_any w.heap.size tb k1.cleared vp7 vn7 vi7 (bs d) wq hT hok2 (by rw [bs_size]; omega) (by rw [bs_size]; omega) (by rw [bs_data, c_of HE.out.set]; exact HE.out.lit)
        rw [bs_data] at cL
        have cG := fun wq hT => followW_any w.heap.size tb k1.cleared vp7 vn7 vi7 (k1.cleared.find (k1.cleared.longest d)) wq hT hok2 hxc hfw
        have hbd : (bs d).extract (k1.cleared.longest d).length d.length = bs (d.drop (k1.cleared.longest d).length) := by rw [bs_ext]; congr 1; exact List.take_of_length_le (by rw [List.length_drop]; omega)
        have hsz := bs_size d
        have HD9 := Lib.hid hD9
        have HBD := Lib.hid hbd
        clear hD9 hbd hfw hxc hok2 HE
        generalize hx : k1.cleared.find (k1.cleared.longest d) = x at *
        generalize hnl : (k1.cleared.longest d).length = n1 at *
        generalize hka : k1.cleared.after x = k9 at *
        clear hx hnl hka
        go_wp2_with fail
        with_reducible refine (cL _ HW8.out.tree).mono ?_
        rintro e w9 ⟨rfl, U9⟩
        go_wp2_with fail
        with_reducible refine (cG _ (HW8.out.upd U9).tree).mono ?_
        rintro e w10 ⟨⟨vv, rfl⟩, hP10⟩
        obtain ⟨vp10, vn10, vi10, hW10⟩ := (HW8.out.upd U9).tr hP10
        have HW10 := Lib.hid hW10
        clear hP10 hW10
        go_wp2_with (at_builtin; (refine wpList_append2 rfl _ _ 54 rfl w.heap.size 3 i0 (.int .i64 0) 1 8 Tryz.underlying54 hi hz0 hz1 hz2 rfl (by decide) _ _ _ rfl (ownsRow_up (HW10.out).own (Up.alloc (Up.refl _) _)) ⟨(w10).heap.size, 0, none⟩ 1 1 [.int .i64 x] rfl rfl (new_cells [.int .i64 x] _ rfl) (by intro u hu; simp at hu; subst hu; rfl) (by unfold maxLen; omega) (by omega) (by have := (HW10.out).up.size; simp; omega) ?_; rintro va wa hva hga hna; obtain ⟨aa, ca, rfl⟩ := ownsRow_shape hva; have HA := Lib.hid (And.intro hva (And.intro hga hna)); clear hva hga hna))
        go_roundw
        case rel => exact ⟨k9, d.drop n1, vp10, vn10, vi10, m - 1, acc2 ++ [x], by rw [HBD.out], HD9.out, (HW10.out.app HA.out.1 HA.out.2.1 HA.out.2.2)⟩
        case measure =>
          simp only [slen]
          rw [HBD.out, bs_size, bs_size, List.length_drop]; omega

      · have hff : k1.full = false := by simpa using hf
        rw [hff] at cQ
        have HE := Lib.hid (HD.out.more hff)
        clear hf hset hff
        go_wp2_with (first | ((go_at_call 180; (with_reducible refine (cQ _).mono ?_); rintro e w6 ⟨rfl, U6⟩; have B6 := bcell U6; have Z6 := U6.size; (try simp at Z6); (try rw [Nat.add_one_le_iff] at Z6)); have HW8 := Lib.hid (HW.out.upd U6); clear B6 Z6 c0 c1 c2 c3 c4 c5 c6 c7) | fail)
        obtain ⟨hfw, hxc, hlp, hll, hD9⟩ := HE.out.step HDE.out
        have hok2 := HE.out.ok
        have hle2 := HE.out.le
        have hsum2 := HE.out.sum
        have cL := fun wq hT => longest_any w.heap.size tb k1 (.slice ap k1.ps.length cp) vn vi (bs d) wq hT hok2 (by rw [bs_size]; omega) (by rw [bs_size]; omega) (by rw [bs_data, c_of HE.out.set]; exact HE.out.lit)
        rw [bs_data] at cL
        have cG := fun wq hT => followW_any w.heap.size tb k1 (.slice ap k1.ps.length cp) vn vi (k1.find (k1.longest d)) wq hT hok2 hxc hfw
        have hbd : (bs d).extract (k1.longest d).length d.length = bs (d.drop (k1.longest d).length) := by rw [bs_ext]; congr 1; exact List.take_of_length_le (by rw [List.length_drop]; omega)
        have hsz := bs_size d
        have HD9 := Lib.hid hD9
        have HBD := Lib.hid hbd
        clear hD9 hbd hfw hxc hok2 HE
        generalize hx : k1.find (k1.longest d) = x at *
        generalize hnl : (k1.longest d).length = n1 at *
        generalize hka : k1.after x = k9 at *
        clear hx hnl hka
        go_wp2_with fail
        with_reducible refine (cL _ HW8.out.tree).mono ?_
        rintro e w9 ⟨rfl, U9⟩
        go_wp2_with fail
        with_reducible refine (cG _ (HW8.out.upd U9).tree).mono ?_
        rintro e w10 ⟨⟨vv, rfl⟩, hP10⟩
        obtain ⟨vp10, vn10, vi10, hW10⟩ := (HW8.out.upd U9).tr hP10
        have HW10 := Lib.hid hW10
        clear hP10 hW10
        go_wp2_with (at_builtin; (refine wpList_append2 rfl _ _ 54 rfl w.heap.size 3 i0 (.int .i64 0) 1 8 Tryz.underlying54 hi hz0 hz1 hz2 rfl (by decide) _ _ _ rfl (ownsRow_up (HW10.out).own (Up.alloc (Up.refl _) _)) ⟨(w10).heap.size, 0, none⟩ 1 1 [.int .i64 x] rfl rfl (new_cells [.int .i64 x] _ rfl) (by intro u hu; simp at hu; subst hu; rfl) (by unfold maxLen; omega) (by omega) (by have := (HW10.out).up.size; simp; omega) ?_; rintro va wa hva hga hna; obtain ⟨aa, ca, rfl⟩ := ownsRow_shape hva; have HA := Lib.hid (And.intro hva (And.intro hga hna)); clear hva hga hna))
        go_roundw
        case rel => exact ⟨k9, d.drop n1, vp10, vn10, vi10, m - 1, acc ++ [x], by rw [HBD.out], HD9.out, (HW10.out.app HA.out.1 HA.out.2.1 HA.out.2.2)⟩
        case measure =>
          simp only [slen]
          rw [HBD.out, bs_size, bs_size, List.length_drop]; omega


end Go.Proofs.YtekbbnkkninolaaGreat

/- Walks of the program's PackCodes, GreedyCodes, Compress. Conditions: what is known is valid and can be read. -/
namespace Go.Proofs.YtekbbnkkninolaaGreat
set_option linter.unusedVariables false
set_option linter.unusedSimpArgs false
open Go Go.RowKit

theorem packC_len10 (o : Int) : ∀ (xs ws : List Int), (∀ w ∈ ws, 0 ≤ w ∧ w ≤ 10) → (packC o xs ws).length ≤ 10 * ws.length
  | [], ws, _ => by simp [packC]
  | _ :: _, [], _ => by simp [packC]
  | x :: xs, w :: ws, h => by
    simp only [packC, List.length_append, codeL_length, List.length_cons]
    have h1 := h w (List.mem_cons_self ..)
    have h2 := packC_len10 o xs ws fun v hv => h v (List.mem_cons_of_mem _ hv)
    omega

set_option maxRecDepth 100000 in
set_option maxHeartbeats 1000000 in
theorem packBI_any (o : Int) (s : ByteArray) (w : World) (ho : o = 0 ∨ o = 1) (hb : isBits s.data.toList) (hs : s.size ≤ 32000) :
    Calls Tryz.prog 156  #[.int .i64 o, .string s] w (Same (.tuple #[.string (bs (packL o s.data.toList)), .bool true]) w) := by
  have cO := fun w => orderI_any o w
  have cV := fun w => bitsVI_any s w hb hs
  have cP := fun w => packI_any o s w ho hb (by omega)
  have ho1 : (o == 0 || o == 1) = true := by rcases ho with rfl | rfl <;> rfl
  rw [ho1] at cO
  clear hb ho ho1
  go_enter Tryz.func156, Tryz.ntmps156
  go_wp2_with (first | (go_at_call 133; (with_reducible refine (cO _).mono ?_); rintro e w' ⟨rfl, rfl⟩) | (go_at_call 186; (with_reducible refine (cV _).mono ?_); rintro e w' ⟨rfl, rfl⟩) | (go_at_call 187; (with_reducible refine (cP _).mono ?_); rintro e w3 ⟨rfl, U3⟩; have B3 := bcell U3; have Z3 := U3.size; (try simp at Z3); (try rw [Nat.add_one_le_iff] at Z3)))
  go_ret2
  exact ⟨rfl, U3⟩

theorem nil_row {w : World} {base : Nat} {e : TypeId} {size n c : Nat} {a : Option Addr} {xs : List Value} (h : w.ownsRow base e size (.slice a n c) n xs) : a = none → n = 0 ∧ c = 0 := fun ha => by
  subst ha
  rcases h.2 with ⟨e1, _⟩ | ⟨g, cp, cur, e1, _⟩
  · simpa using e1
  · simp at e1
theorem clipI_any (a : Option Addr) (n c : Nat) (w : World) (h : n ≤ c) (hc : c ≤ 9223372036854775807) (ha : a = none → n = 0 ∧ c = 0) :
    Calls Tryz.prog 152 #[.slice a n c] w (fun e w' => e = .returned (.slice a n n) ∧ w = w') := by
  cases a with
  | none =>
    obtain ⟨h1, h2⟩ := ha rfl
    subst h1; subst h2
    go_enter Tryz.func152, Tryz.ntmps152
    go_wp2
    go_ret
    exact ⟨rfl, rfl⟩
  | some ad =>
    clear ha
    go_enter Tryz.func152, Tryz.ntmps152
    go_wp2
    go_ret
    exact ⟨rfl, rfl⟩

def RelPc (o : Int) (codes ws : List Int) (a0 : World) (out i : Value) (wr : World) : Prop := ∃ n : Nat, i = .int .i64 n ∧ n ≤ codes.length ∧ ownU wr a0.heap.size out (packC o (codes.take n) (ws.take n)) ∧ Up a0 wr

set_option maxRecDepth 100000 in
set_option maxHeartbeats 8000000 in
theorem packCI_any (k : KnD) (v : Value) (lo : Nat) (codes : List Int) (vc : Value) (lc : Nat) (w : World) (h : k.Ok) (hv : k.last = -1 → k.base = k.ps.length) (hr : RdP lo w v k.ps) (hc : RdI lc w vc codes) (hl : codes.length ≤ 3100) (hT : (walkN k codes [] []).ok = true) (hD : (walkN k codes [] []).data.length ≤ 2000)
    (hw : (walkN k codes [] []).ws.length = codes.length) (hcb : ∀ x ∈ codes, 0 ≤ x ∧ x ≤ 1048576) (hwb : ∀ x ∈ (walkN k codes [] []).ws, 0 ≤ x ∧ x ≤ 10) :
    Calls Tryz.prog 128  #[kV k v, vc] w (Same (.tuple #[.string (bs (packL k.set.ord (packC k.set.ord codes (walkN k codes [] []).ws))), .bool true]) w) := by
  have cW := fun wx hr hc => walkI_any k v lo codes vc lc wx h hv hr hc hl hT hD
  have hrt := fun (wq : World) (hu : Up w wq) => hr.up hu
  have hct := fun (wq : World) (hu : Up w wq) => hc.up hu
  have ho := (setOk_bd h.set).1
  obtain ⟨a, cap, rfl, -, -, -, -⟩ := hr
  obtain ⟨ac, cc, rfl, hcc1, hcc2, -⟩ := id hc
  unfold maxLen at hcc2
  have hpl := packC_len10 k.set.ord codes _ hwb
  have hib := isBits_packC k.set.ord codes (walkN k codes [] []).ws
  clear hT hD
  generalize walkN k codes [] [] = T at *
  have hwl : T.ws.length ≤ 3100 := by omega
  have cP := fun wx => packBI_any k.set.ord (bs (packC k.set.ord codes T.ws)) wx ho (by rw [bs_data]; exact hib) (by rw [bs_size]; omega)
  rw [bs_data] at cP
  have HW := Lib.hid hw
  have HCB := Lib.hid hcb
  have HWB := Lib.hid hwb
  clear h hv hw hcb hwb hib
  simp only [kV] at *
  go_enter Tryz.func128, Tryz.ntmps128
  go_wp2_with (go_at_call 154; (with_reducible refine (cW _ (hrt _ (by (repeat (first | with_reducible exact Up.refl _ | with_reducible assumption | with_reducible refine Up.set ?_ (by first | exact Nat.le_refl _ | (simp only []; omega) | (simp; omega)) _ | with_reducible refine Up.alloc ?_ _ | with_reducible refine Up.drew ?_ | refine Up.trans ?_ (by with_reducible assumption))))) (hct _ (by (repeat (first | with_reducible exact Up.refl _ | with_reducible assumption | with_reducible refine Up.set ?_ (by first | exact Nat.le_refl _ | (simp only []; omega) | (simp; omega)) _ | with_reducible refine Up.alloc ?_ _ | with_reducible refine Up.drew ?_ | refine Up.trans ?_ (by with_reducible assumption)))))).mono ?_); rintro e w1 ⟨vw, rfl, ho1, U1⟩; obtain ⟨aw, cw, rfl⟩ := ownsRow_shape ho1; have B1 := bcell U1; have HO1 := Lib.hid ho1; clear ho1)
  have hU1 : Up w w1 := by (repeat (first | with_reducible exact Up.refl _ | with_reducible assumption | with_reducible refine Up.set ?_ (by first | exact Nat.le_refl _ | (simp only []; omega) | (simp; omega)) _ | with_reducible refine Up.alloc ?_ _ | with_reducible refine Up.drew ?_ | refine Up.trans ?_ (by with_reducible assumption)))
  have HK1 : KnAt w.heap.size k (.slice a k.ps.length cap) w1 := box_up U1 (MapKept.heap_alloc w _).1
  have HK := Lib.hid HK1
  clear hrt HK1 U1 B1 cW
  go_loopw [9, 23] (fun out i wr => RelPc k.set.ord codes T.ws w1 out i wr) (fun _ i _ => codes.length - (intOf i).toNat)
  case atStart => exact ⟨0, rfl, Nat.zero_le _, World.ownsRow_nil _ _ _ _, Up.refl _⟩
  case round =>
    obtain ⟨n, rfl, hle, hown, hup⟩ := hrel
    have hdl : (packC k.set.ord (codes.take n) (T.ws.take n)).length ≤ 131072 := by
      have := packC_len10 k.set.ord (codes.take n) (T.ws.take n) (fun x hx => HWB.out x (List.mem_of_mem_take hx))
      rw [List.length_take] at this
      omega
    obtain ⟨-, r0, r1, r2, r3, r4, r5⟩ := (HK.out.up hup).cells
    obtain ⟨ad, cd, rfl⟩ := ownsRow_shape hown
    have HOW := Lib.hid hown
    have HUP := Lib.hid hup
    by_cases hlt : n < codes.length
    · have hlt2 : n < T.ws.length := by have := HW.out; omega
      obtain ⟨bc, oc, rfl, hbc1, hbc2, -, -, -, -⟩ := RdI.at (hct _ (hU1.trans hup)) hlt
      obtain ⟨bw, ow, rfl, hbw1, hbw2, -, hbw4, hbw5, -⟩ := RdI.at (RdI.of_own (ownsRow_up HO1.out hup)) hlt2
      have hb := HCB.out _ (List.getElem_mem hlt)
      have hb2 := HWB.out _ (List.getElem_mem hlt2)
      obtain ⟨xn, hxn⟩ := Int.eq_ofNat_of_zero_le hb.1
      obtain ⟨wn, hwn⟩ := Int.eq_ofNat_of_zero_le hb2.1
      have cB := fun wq hu hown => bitsI_any w1 k.set.ord xn wn (.slice ad (packC k.set.ord (codes.take n) (T.ws.take n)).length cd) (packC k.set.ord (codes.take n) (T.ws.take n)) wq ho (by omega) (by omega) (by omega) hu hown
      have HS : Hid (packC k.set.ord (codes.take (n + 1)) (T.ws.take (n + 1)) = packC k.set.ord (codes.take n) (T.ws.take n) ++ codeL k.set.ord xn wn) := by
        unfold Hid
        rw [packC_take k.set.ord HW.out.symm hlt, hxn, hwn]; rfl
      rw [hxn] at hbc2
      rw [hwn] at hbw2
      unfold maxLen at hbw5
      generalize packC k.set.ord (codes.take n) (T.ws.take n) = dn at *
      clear hb hb2 hxn hwn hown hup
      go_wp2
      refine wp_region_upR 9 (by kernel_rfl) (by kernel_rfl) ?_
      simp only [List.take, List.drop]
      repeat (refine wpUp_step (fun K hK => ?_); go_simp; (try simp only [↓IntWalk.iteOmega]); first
        | (refine hK _ _ ?_; clear hK K)
        | (apply stepU_c
           · intro wq hwq; (have hbq := bcell hwq; (repeat (first | refine fills_no (by rfl) ?_ | refine fills_yes (by rfl) (fun vq hvq => ?_))); simp only [List.filter_nil, fills]; unfold upAt; (try ((obtain ⟨-, r0, r1, r2, r3, r4, r5⟩ := (HK.out.up (HUP.out.trans hwq)).cells; have hbw3 := (hwq.cell (p := ⟨bw, ow + n, none⟩) hbw1).trans hbw2))); go_simp; (try go_bits); (try simp only [↓IntWalk.iteOmega]); (try (rw [dif_pos (by omega)]; go_simp; try go_bits)); first | exact upOut_value)
           go_simp; refine hK _ _ ?_; clear hK K))
      refine wpUp_nil (fun wq hwq => ?_)
      simp only [fills]
      go_wp2_with fail
      with_reducible refine (cB _ (HUP.out.trans hwq) (ownsRow_up HOW.out hwq)).mono ?_
      rintro e w5 ⟨v5, rfl, ho5, hU5⟩
      obtain ⟨a5, c5, rfl⟩ := ownsRow_shape (ownsRow_n2 (n' := dn.length + (codeL k.set.ord xn wn).length) ho5 (by simp))
      have HO5 := Lib.hid ho5
      clear ho5
      go_wp2
      go_roundw
      case rel => exact ⟨n + 1, by go_num, by omega, by rw [HS.out]; exact HO5.out, hU5⟩
      case measure => simp [intOf]; omega
    · have e : n = codes.length := by omega
      subst e
      have ht1 : codes.take codes.length = codes := List.take_length
      have ht2 : T.ws.take codes.length = T.ws := by rw [← HW.out]; exact List.take_length
      rw [ht1, ht2] at hown hdl ⊢
      have cv := conv_any hown rfl
      clear hown ht1 ht2 HOW
      generalize packC k.set.ord codes T.ws = dn at *
      go_wp2_with ((go_at_call 156; (with_reducible refine (cP _).mono ?_); rintro e w5 ⟨rfl, U5⟩; have B5 := bcell U5; have Z5 := U5.size; (try simp at Z5); (try rw [Nat.add_one_le_iff] at Z5)))
      go_ret2
      exact ⟨rfl, hU1.trans (hup.trans U5)⟩

/-- What GreedyCodes gives. -/
def GcPost (l : List Int) (w : World) (e : Ending) (w' : World) : Prop := ∃ v, e = .returned (.tuple #[v, .bool true]) ∧ RdI 0 w' v l ∧ Up w w'

set_option maxRecDepth 100000 in
set_option maxHeartbeats 4000000 in
theorem gcodesI_any (k : KnD) (v : Value) (lo : Nat) (d : ByteArray) (w : World) (h : k.Ok) (hv : k.last = -1 → k.base = k.ps.length) (hr : RdP lo w v k.ps) (hd : d.size ≤ 1073741824) :
    Calls Tryz.prog 127  #[kV k v, .string d] w (fun e w' => if fitsB k.set d.data.toList then GcPost (greedy k d.data.toList) w e w' else Same (.tuple #[.slice none 0 0, .bool false]) w e w') := by
  have cV := fun wx hr => kvI_any k v lo wx h hv hr
  obtain ⟨-, hlb, -, -⟩ := setOk_bd h.set
  have cF := fun wx => fitsI_any k.set d wx (by omega) hd
  have hrt := fun (wq : World) (hu : Up w wq) => hr.up hu
  have hlen := ba_len d
  cases hf : fitsB k.set d.data.toList
  · rw [hf] at cF
    simp only [Bool.false_eq_true, if_false]
    obtain ⟨a, cap, rfl, -, -, -, -⟩ := hr
    clear h hv hf
    simp only [kV] at *
    go_enter Tryz.func127, Tryz.ntmps127
    go_wp2_with (first | (go_at_call 150; (with_reducible refine (cV _ (hrt _ (by (repeat (first | with_reducible exact Up.refl _ | with_reducible assumption | with_reducible refine Up.set ?_ (by first | exact Nat.le_refl _ | (simp only []; omega) | (simp; omega)) _ | with_reducible refine Up.alloc ?_ _ | with_reducible refine Up.drew ?_ | refine Up.trans ?_ (by with_reducible assumption)))))).mono ?_); rintro e w1 ⟨rfl, U1⟩; have B1 := bcell U1; have Z1 := U1.size; (try simp at Z1); (try rw [Nat.add_one_le_iff] at Z1)) | (go_at_call 30; (with_reducible refine (cF _).mono ?_); rintro e w2 ⟨rfl, U2⟩; have B2 := bcell U2; have Z2 := U2.size; (try simp at Z2); (try rw [Nat.add_one_le_iff] at Z2)))
    go_ret2
    refine ⟨rfl, ?_⟩
    (repeat (first | with_reducible exact Up.refl _ | with_reducible assumption | with_reducible refine Up.set ?_ (by first | exact Nat.le_refl _ | (simp only []; omega) | (simp; omega)) _ | with_reducible refine Up.alloc ?_ _ | with_reducible refine Up.drew ?_ | refine Up.trans ?_ (by with_reducible assumption)))
  · rw [hf] at cF
    simp only [if_true]
    obtain ⟨-, h2, h3⟩ := fitsB_lits hf
    have cG := fun wx hr => greedy_any k v lo d wx h hr (by omega) h3
    obtain ⟨a, cap, rfl, -, -, -, -⟩ := hr
    clear h hv hf h3
    generalize greedy k d.data.toList = codes at *
    simp only [kV] at *
    go_enter Tryz.func127, Tryz.ntmps127
    go_wp2_with (first | (go_at_call 150; (with_reducible refine (cV _ (hrt _ (by (repeat (first | with_reducible exact Up.refl _ | with_reducible assumption | with_reducible refine Up.set ?_ (by first | exact Nat.le_refl _ | (simp only []; omega) | (simp; omega)) _ | with_reducible refine Up.alloc ?_ _ | with_reducible refine Up.drew ?_ | refine Up.trans ?_ (by with_reducible assumption)))))).mono ?_); rintro e w1 ⟨rfl, U1⟩; have B1 := bcell U1; have Z1 := U1.size; (try simp at Z1); (try rw [Nat.add_one_le_iff] at Z1)) | (go_at_call 30; (with_reducible refine (cF _).mono ?_); rintro e w2 ⟨rfl, U2⟩; have B2 := bcell U2; have Z2 := U2.size; (try simp at Z2); (try rw [Nat.add_one_le_iff] at Z2)) | (go_at_call 153; (with_reducible refine (cG _ (hrt _ (by (repeat (first | with_reducible exact Up.refl _ | with_reducible assumption | with_reducible refine Up.set ?_ (by first | exact Nat.le_refl _ | (simp only []; omega) | (simp; omega)) _ | with_reducible refine Up.alloc ?_ _ | with_reducible refine Up.drew ?_ | refine Up.trans ?_ (by with_reducible assumption)))))).mono ?_); rintro e w3 ⟨v3, rfl, ho3, U3⟩; have hrd3 := RdI.of_own ho3; obtain ⟨a3, c3, rfl⟩ := ownsRow_shape ho3; have hcp3 := ownsRow_cap ho3; have hn3 := nil_row ho3; have HRD := Lib.hid hrd3; clear hrd3 ho3) | (go_at_call 152; (with_reducible refine (clipI_any _ _ _ _ hcp3.1 hcp3.2 hn3).mono ?_); rintro e w' ⟨rfl, rfl⟩))
    go_ret2
    refine ⟨_, rfl, ?_, by (repeat (first | with_reducible exact Up.refl _ | with_reducible assumption | with_reducible refine Up.set ?_ (by first | exact Nat.le_refl _ | (simp only []; omega) | (simp; omega)) _ | with_reducible refine Up.alloc ?_ _ | with_reducible refine Up.drew ?_ | refine Up.trans ?_ (by with_reducible assumption)))⟩
    obtain ⟨a', cap', e1, e2, e3, e4⟩ := HRD.out
    cases e1
    exact ⟨_, _, rfl, Nat.le_refl _, by omega, fun hp => by
      obtain ⟨b, off, f1, f2, f3, f4⟩ := e4 hp
      exact ⟨b, off, f1, Nat.zero_le _, f3, f4⟩⟩

set_option maxRecDepth 100000 in
set_option maxHeartbeats 4000000 in
theorem compI_any (k : KnD) (v : Value) (lo : Nat) (d : ByteArray) (w : World) (h : k.Ok) (hv : k.last = -1 → k.base = k.ps.length) (hr : RdP lo w v k.ps) (hd : d.size ≤ 1073741824) :
    Calls Tryz.prog 78  #[kV k v, .string d] w (Same (optS (compO k d.data.toList)) w) := by
  have cG := fun wx hr => gcodesI_any k v lo d wx h hv hr hd
  have hrt := fun (wq : World) (hu : Up w wq) => hr.up hu
  have hlen := ba_len d
  unfold compO optS
  cases hf : fitsB k.set d.data.toList
  · rw [hf] at cG
    simp only [Bool.false_eq_true, if_false] at cG ⊢
    obtain ⟨a, cap, rfl, -, -, -, -⟩ := hr
    clear h hv hf
    simp only [kV] at *
    go_enter Tryz.func78, Tryz.ntmps78
    go_wp2_with ((go_at_call 127; (with_reducible refine (cG _ (hrt _ (by (repeat (first | with_reducible exact Up.refl _ | with_reducible assumption | with_reducible refine Up.set ?_ (by first | exact Nat.le_refl _ | (simp only []; omega) | (simp; omega)) _ | with_reducible refine Up.alloc ?_ _ | with_reducible refine Up.drew ?_ | refine Up.trans ?_ (by with_reducible assumption)))))).mono ?_); rintro e w1 ⟨rfl, U1⟩; have B1 := bcell U1; have Z1 := U1.size; (try simp at Z1); (try rw [Nat.add_one_le_iff] at Z1)))
    go_ret2
    refine ⟨rfl, ?_⟩
    (repeat (first | with_reducible exact Up.refl _ | with_reducible assumption | with_reducible refine Up.set ?_ (by first | exact Nat.le_refl _ | (simp only []; omega) | (simp; omega)) _ | with_reducible refine Up.alloc ?_ _ | with_reducible refine Up.drew ?_ | refine Up.trans ?_ (by with_reducible assumption)))
  · rw [hf] at cG
    simp only [if_true] at cG ⊢
    obtain ⟨-, h2, h3⟩ := fitsB_lits hf
    obtain ⟨g1, g2, g3, g4, g5⟩ := walk_greedy h h3 (by omega)
    have g6 := greedy_tight h h3 (by omega)
    have cP := fun wx vc hr hc => packCI_any k v lo (greedy k d.data.toList) vc 0 wx h hv hr hc (by omega) g3 (by rw [g2]; omega) g1 (fun x hx => ⟨(g5 x hx).1, by have := (g5 x hx).2; omega⟩) (fun x hx => ⟨by have := (g4 x hx).1; omega, (g4 x hx).2⟩)
    have HE : Hid (compL k d.data.toList = packL k.set.ord (packC k.set.ord (greedy k d.data.toList) (walkN k (greedy k d.data.toList) [] []).ws)) := rfl
    simp only [Option.getD_some, Option.isSome_some]
    rw [HE.out]
    generalize packL k.set.ord (packC k.set.ord (greedy k d.data.toList) (walkN k (greedy k d.data.toList) [] []).ws) = cl at *
    clear g1 g2 g3 g4 g5 g6 HE hf h3
    generalize greedy k d.data.toList = codes at *
    obtain ⟨a, cap, rfl, -, -, -, -⟩ := hr
    clear h hv
    simp only [kV] at *
    go_enter Tryz.func78, Tryz.ntmps78
    go_wp2_with (first | (go_at_call 127; (with_reducible refine (cG _ (hrt _ (by (repeat (first | with_reducible exact Up.refl _ | with_reducible assumption | with_reducible refine Up.set ?_ (by first | exact Nat.le_refl _ | (simp only []; omega) | (simp; omega)) _ | with_reducible refine Up.alloc ?_ _ | with_reducible refine Up.drew ?_ | refine Up.trans ?_ (by with_reducible assumption)))))).mono ?_); rintro e w1 ⟨v1, rfl, hr1, U1⟩; have B1 := bcell U1; have HR1 := Lib.hid hr1; obtain ⟨a1, c1, rfl, -, -, -⟩ := hr1) | (go_at_call 128; (with_reducible refine (cP _ _ (hrt _ (by (repeat (first | with_reducible exact Up.refl _ | with_reducible assumption | with_reducible refine Up.set ?_ (by first | exact Nat.le_refl _ | (simp only []; omega) | (simp; omega)) _ | with_reducible refine Up.alloc ?_ _ | with_reducible refine Up.drew ?_ | refine Up.trans ?_ (by with_reducible assumption))))) HR1.out).mono ?_); rintro e w2 ⟨rfl, U2⟩; have B2 := bcell U2; have Z2 := U2.size; (try simp at Z2); (try rw [Nat.add_one_le_iff] at Z2)))
    go_ret2
    refine ⟨rfl, ?_⟩
    (repeat (first | with_reducible exact Up.refl _ | with_reducible assumption | with_reducible refine Up.set ?_ (by first | exact Nat.le_refl _ | (simp only []; omega) | (simp; omega)) _ | with_reducible refine Up.alloc ?_ _ | with_reducible refine Up.drew ?_ | refine Up.trans ?_ (by with_reducible assumption)))

end Go.Proofs.YtekbbnkkninolaaGreat

/- Walks of the program's learn, LearnKnown, StartWith. Conditions: what is known is valid and can be read. -/
namespace Go.Proofs.YtekbbnkkninolaaGreat
set_option linter.unusedVariables false
set_option linter.unusedSimpArgs false
open Go Go.RowKit

/-- The plain state of learn; its memory. -/
structure LiD (T : KnD) (k0 : KnD) (L : List UInt8) (m : Nat) (k : KnD) (n : Nat) : Prop where
  len : L.length ≤ n + m
  le : n ≤ L.length
  tot : learnN m k (L.drop n) = T
  ok : k.Ok
  set : k.set = k0.set
structure LiW (w : World) (tb : Nat) (k : KnD) (vp vn vi : Value) (wr : World) : Prop where
  tree : TreeAt (w.heap.size + 2) tb k vp vn vi wr
  res : KnAt (w.heap.size + 1) ⟨⟨0, 0, 0⟩, [], 0, 0⟩ (.slice none 0 0) wr
  up : Up w wr
theorem LiW.upd {w : World} {tb : Nat} {k : KnD} {vp vn vi : Value} {wr w' : World} (h : LiW w tb k vp vn vi wr) (hu : Up wr w') : LiW w tb k vp vn vi w' := ⟨h.tree.up hu, h.res.up hu, h.up.trans hu⟩
theorem LiW.tr {w : World} {tb : Nat} {k k' : KnD} {vp vn vi : Value} {wr w' : World} (h : LiW w tb k vp vn vi wr) (hp : TrPost (w.heap.size + 2) tb k' vp vn vi wr w') : ∃ vp' vn' vi', LiW w tb k' vp' vn' vi' w' := by
  obtain ⟨vp', vn', vi', hT, hF, hO⟩ := hp
  exact ⟨vp', vn', vi', hT, hF.box h.res (fun ho => by have := (h.tree.own_lo _ ho).1; omega), Fr.upto h.up hF (fun b hb => by have := (h.tree.own_lo b hb).1; omega)⟩
theorem LiD.step {T k0 : KnD} {L : List UInt8} {m : Nat} {k : KnD} {n : Nat} (h : LiD T k0 L m k n) (hn : n < L.length) (hl : ∀ b ∈ L, b.toNat < k0.c) :
    k.follows (k.find (k.longest (L.drop n))) = true ∧ ¬ k.find (k.longest (L.drop n)) = (k.c : Int) ∧ 1 ≤ (k.longest (L.drop n)).length ∧ n + (k.longest (L.drop n)).length ≤ L.length ∧ LiD T k0 L (m - 1) (k.after (k.find (k.longest (L.drop n)))) (n + (k.longest (L.drop n)).length) := by
  have hde : L.drop n ≠ [] := fun e => by rw [List.drop_eq_nil_iff] at e; omega
  have hll := KnD.longest_le (k := k) (L.drop n)
  have hlp := KnD.longest_pos (k := k) hde
  have hl2 : ∀ b ∈ L.drop n, b.toNat < k.c := fun b hb => by rw [c_of h.set]; exact hl b (List.mem_of_mem_drop hb)
  obtain ⟨hfw, -⟩ := KnD.find_any h.ok hde hl2
  rw [List.length_drop] at hll
  have h1 := h.len; have h4 := h.tot
  obtain ⟨m', rfl⟩ : ∃ m', m = m' + 1 := ⟨m - 1, by omega⟩
  refine ⟨hfw, (KnD.fol_ne h.ok hfw).1, hlp, by omega, by omega, by omega, ?_, KnD.after_ok h.ok hfw, h.set⟩
  rw [learnN_step hde, List.drop_drop] at h4
  exact h4
def RelLi (T k0 : KnD) (L : List UInt8) (tb : Nat) (w : World) (q i : Value) (wr : World) : Prop := ∃ (k : KnD) (n : Nat) (vp vn vi : Value) (m : Nat) (y : Int), q = .int .i64 y ∧ i = .int .i64 n ∧ LiD T k0 L m k n ∧ LiW w tb k vp vn vi wr
def LnPost (k : KnD) (w : World) (e : Ending) (w' : World) : Prop := ∃ v y, e = .returned (.tuple #[kV k v, .int .i64 y]) ∧ ownPr w' w.heap.size v k.ps ∧ Up w w'

set_option maxRecDepth 100000 in
set_option maxHeartbeats 8000000 in
theorem learnI_any (k : KnD) (v : Value) (lo : Nat) (d : ByteArray) (w : World) (hk : k.Ok) (hr : RdP lo w v k.ps) (hd : d.size ≤ 2000) (hl : ∀ b ∈ d.data.toList, b.toNat < k.c) :
    Calls Tryz.prog 84  #[kV k v, .string d] w (LnPost (learnK k d.data.toList) w) := by
  have hkt := hk.tr
  have cK := fun w => clearI_any k.set w hk.set
  have hrt := fun (wq : World) (hu : Up w wq) => hr.up hu
  have cN := fun wq hr => newTree_any k v lo wq hk hr
  have HK := Lib.hid hk
  have hkb := And.intro hk.base0 hk.base1
  obtain ⟨a, cap, rfl, -, -, -, -⟩ := hr
  have HLl := Lib.hid hl
  have hdl := ba_len d
  clear hk hl
  simp only [kV] at *
  go_enter Tryz.func84, Tryz.ntmps84
  go_wp2_with fail
  with_reducible refine (cN _ (hrt _ (by (repeat (first | with_reducible exact Up.refl _ | with_reducible assumption | with_reducible refine Up.set ?_ (by first | exact Nat.le_refl _ | (simp only []; omega) | (simp; omega)) _ | with_reducible refine Up.alloc ?_ _ | with_reducible refine Up.drew ?_ | refine Up.trans ?_ (by with_reducible assumption)))))).mono ?_
  rintro e w2 ⟨tb, vp, vn, vi, rfl, hT2, U2⟩
  have hW2 : LiW w tb k vp vn vi w2 := ⟨hT2.base (by simp), box_up U2 (alloc2 w _ _), by (repeat (first | with_reducible exact Up.refl _ | with_reducible assumption | with_reducible refine Up.set ?_ (by first | exact Nat.le_refl _ | (simp only []; omega) | (simp; omega)) _ | with_reducible refine Up.alloc ?_ _ | with_reducible refine Up.drew ?_ | refine Up.trans ?_ (by with_reducible assumption)))⟩
  obtain ⟨-, r0, r1, r2, r3, r4, r5⟩ := KnAt.cells (b := w.heap.size) (k := k) (v := .slice a k.ps.length cap) (box_up U2 (box_up ((Up.refl _).alloc _) (MapKept.heap_alloc w _).1))
  have HW2 := Lib.hid hW2
  have htb2 := hT2.lt
  clear hT2 U2 hW2 cN hrt
  go_wp2_with (first | (go_at_call 137; (with_reducible refine (cK _).mono ?_); rintro e w3 ⟨rfl, U3⟩; have B3 := bcell U3; have Z3 := U3.size; (try simp at Z3); (try rw [Nat.add_one_le_iff] at Z3)) | fail)
  have cF := followC_any (w.heap.size + 2) tb k vp vn vi w3 (HW2.out.upd U3).tree hkt hkb.1 hkb.2
  rw [show k.c = clr k.set from rfl] at cF
  with_reducible refine cF.mono ?_
  rintro e w4 ⟨⟨vv, rfl⟩, hP4⟩
  obtain ⟨vp4, vn4, vi4, hW4⟩ := (HW2.out.upd U3).tr hP4
  have HW4 := Lib.hid hW4
  clear hP4 hW4 U3 B3 Z3 cF
  have HL : Hid (d = bs d.data.toList) := (bs_self d).symm
  generalize d.data.toList = L at *
  have hLs := bs_size L
  have hd2 : L.length ≤ 2000 := by omega
  rw [HL.out]
  clear hdl hd
  go_wp2
  go_loopw [7, 8] (fun q i wr => RelLi (learnN L.length k.cleared L) k L tb w q i wr) (fun _ i _ => L.length - (intOf i).toNat)
  case atStart => exact ⟨k.cleared, 0, vp4, vn4, vi4, L.length, 0, rfl, rfl, ⟨by omega, Nat.zero_le _, by rw [List.drop_zero], KnD.cleared_ok HK.out, rfl⟩, HW4.out⟩
  case round =>
    obtain ⟨k1, n, vp, vn, vi, m, y, rfl, rfl, hD, hW⟩ := hrel
    have hle := hD.le
    have HD := Lib.hid hD
    have HW := Lib.hid hW
    have hpl1 := hD.ok.nums.2.2.2.1
    obtain ⟨ap, cp, rfl⟩ := hW.tree.shape
    have htb := hW.tree.lt
    obtain ⟨c0, c1, c2, c3, c4, c5, c6, c7⟩ := hW.tree.cells
    by_cases hlt : n < L.length
    · have cG := fun wq => growI_any k1.set k1.base k1.last ap k1.ps.length cp wq hD.ok.set (by omega)
      rw [growN_eq] at cG
      simp only [knV] at cG
      obtain ⟨hfw, hxc, hlp, hll, hD9⟩ := hD.step hlt HLl.out
      have hok2 := hD.ok
      have hset := hD.set
      have cL := fun wq hT => longest_any (w.heap.size + 2) tb k1 (.slice ap k1.ps.length cp) vn vi (bs (L.drop n)) wq hT hok2 (by rw [bs_size, List.length_drop]; omega) (by rw [bs_size, List.length_drop]; omega) (by rw [bs_data, c_of hset]; exact fun b hb => HLl.out b (List.mem_of_mem_drop hb))
      rw [bs_data] at cL
      have cG2 := fun wq hT => followW_any (w.heap.size + 2) tb k1 (.slice ap k1.ps.length cp) vn vi (k1.find (k1.longest (L.drop n))) wq hT hok2 hxc hfw
      have hbd : Hid ((bs L).extract n L.length = bs (L.drop n)) := bs_drop' L n L.length rfl
      have HD9 := Lib.hid hD9
      clear hD9 hfw hxc hok2 hset hD hW
      generalize hx : k1.find (k1.longest (L.drop n)) = x at *
      generalize hnl : (k1.longest (L.drop n)).length = n1 at *
      generalize hka : k1.after x = k9 at *
      clear hx hnl hka
      cases hg : k1.grow
      all_goals
        rw [hg] at cG
        clear hg
        go_wp2_with (first | ((go_at_call 138; (with_reducible refine (cG _).mono ?_); rintro e w5 ⟨rfl, U5⟩; have B5 := bcell U5; have Z5 := U5.size; (try simp at Z5); (try rw [Nat.add_one_le_iff] at Z5))) | fail)
        have htb5 := Nat.lt_of_lt_of_le htb U5.size
        rw [hbd.out]
        with_reducible refine (cL _ (HW.out.upd U5).tree).mono ?_
        rintro e w6 ⟨rfl, U6⟩
        go_wp2_with fail
        with_reducible refine (cG2 _ ((HW.out.upd U5).upd U6).tree).mono ?_
        rintro e w7 ⟨⟨vv, rfl⟩, hP7⟩
        obtain ⟨vp7, vn7, vi7, hW7⟩ := ((HW.out.upd U5).upd U6).tr hP7
        go_wp2
        go_roundw
        case rel => exact ⟨k9, n + n1, vp7, vn7, vi7, m - 1, _, rfl, by go_num, HD9.out, hW7⟩
        case measure => simp [intOf]; omega
    · have e : n = L.length := by omega
      subst e
      have htot := hD.tot
      rw [List.drop_length, learnN_nil] at htot
      have HE : Hid (learnK k L = ⟨k1.set, k1.ps, k1.ps.length, -1⟩) := by unfold Hid learnK; rw [← htot, hD.set]
      have cY := fun wx hr => copyI_any k1 (.slice ap k1.ps.length cp) (w.heap.size + 2) wx hr (by omega)
      have hrd := RdP.of_own hW.tree.prs
      clear htot hD hW HW4 HW2 HD
      simp only [kV] at *
      go_wp2_with (go_at_call 140; (with_reducible refine (cY _ hrd).mono ?_); rintro e w5 ⟨v5, rfl, ho5, U5⟩; obtain ⟨a5, c5, rfl⟩ := ownsRow_shape ho5; obtain ⟨hRl, q0, q1, q2, q3, q4, q5⟩ := (HW.out.upd U5).res.cells; have hfr := box_free (HW.out.upd U5).res; have HO := Lib.hid ho5; clear ho5)
      refine bodyPost_ret (v := .tuple #[kV ⟨k1.set, k1.ps, k1.ps.length, -1⟩ (.slice a5 k1.ps.length c5), .int .i64 y]) (by simp [results, Tryz.results84, go_sem, hRl, q0, q1, q2, q3, q4, q5]) rfl ⟨_, _, by rw [HE.out], ?_, ?_⟩
      · rw [HE.out]
        have hs := HW.out.up.size
        have hs2 := U5.size
        have hs3 := (HW.out.res.cells).1
        refine ownsRow_base (base := w.heap.size + 2) ?_ (by omega)
        repeat (first | (with_reducible refine ownsRow_setne ?_ (by omega) _ _) | (with_reducible refine ownsRow_up ?_ (Up.alloc (Up.refl _) _)))
        with_reducible refine ownsRow_base HO.out ?_
        omega
      · have hUU := HW.out.up
        (repeat (first | with_reducible exact Up.refl _ | with_reducible assumption | with_reducible refine Up.set ?_ (by first | exact Nat.le_refl _ | (simp only []; omega) | (simp; omega)) _ | with_reducible refine Up.alloc ?_ _ | with_reducible refine Up.drew ?_ | refine Up.trans ?_ (by with_reducible assumption)))

set_option maxRecDepth 100000 in
set_option maxHeartbeats 4000000 in
theorem learnKI_any (k : KnD) (v : Value) (lo : Nat) (d : ByteArray) (w : World) (h : k.Ok) (hv : k.last = -1 → k.base = k.ps.length) (hr : RdP lo w v k.ps) (hd : d.size ≤ 1073741824) :
    Calls Tryz.prog 124  #[kV k v, .string d] w (fun e w' => if fitsB k.set d.data.toList then KnPost2 (learnK k d.data.toList) w e w' else Same (.tuple #[noKn, .bool false]) w e w') := by
  have cV := fun wx hr => kvI_any k v lo wx h hv hr
  obtain ⟨-, hlb, -, -⟩ := setOk_bd h.set
  have cF := fun wx => fitsI_any k.set d wx (by omega) hd
  have hrt := fun (wq : World) (hu : Up w wq) => hr.up hu
  have hlen := ba_len d
  cases hf : fitsB k.set d.data.toList
  · rw [hf] at cF
    simp only [Bool.false_eq_true, if_false]
    obtain ⟨a, cap, rfl, -, -, -, -⟩ := hr
    clear h hv hf
    simp only [kV] at *
    go_enter Tryz.func124, Tryz.ntmps124
    go_wp2_with (first | ((go_at_call 150; (with_reducible refine (cV _ (hrt _ (by (repeat (first | with_reducible exact Up.refl _ | with_reducible assumption | with_reducible refine Up.set ?_ (by first | exact Nat.le_refl _ | (simp only []; omega) | (simp; omega)) _ | with_reducible refine Up.alloc ?_ _ | with_reducible refine Up.drew ?_ | refine Up.trans ?_ (by with_reducible assumption)))))).mono ?_); rintro e w1 ⟨rfl, U1⟩; have B1 := bcell U1; have Z1 := U1.size; (try simp at Z1); (try rw [Nat.add_one_le_iff] at Z1)); have Y1 : w.heap.size < w1.heap.size := (by have := U1.size; simp at this; omega)) | ((go_at_call 30; (with_reducible refine (cF _).mono ?_); rintro e w2 ⟨rfl, U2⟩; have B2 := bcell U2; have Z2 := U2.size; (try simp at Z2); (try rw [Nat.add_one_le_iff] at Z2)); obtain ⟨hRl, q0, q1, q2, q3, q4, q5⟩ := KnAt.cells (b := w.heap.size + 1) (k := ⟨⟨0, 0, 0⟩, [], 0, 0⟩) (v := .slice none 0 0) (box_up (U1.trans U2) (alloc2 w _ _)); have hfr := box_free (box_up (U1.trans U2) (alloc2 w _ _))))
    obtain ⟨-, q0, q1, q2, q3, q4, q5⟩ := KnAt.cells (b := w.heap.size + 1) (k := ⟨⟨0, 0, 0⟩, [], 0, 0⟩) (v := .slice none 0 0) (box_up (U1.trans U2) (alloc2 w _ _))
    refine bodyPost_ret (v := .tuple #[noKn, .bool false]) (by simp [results, Tryz.results124, go_sem, q0, q1, q2, q3, q4, q5]) rfl ⟨rfl, ?_⟩
    (repeat (first | with_reducible exact Up.refl _ | with_reducible assumption | with_reducible refine Up.set ?_ (by first | exact Nat.le_refl _ | (simp only []; omega) | (simp; omega)) _ | with_reducible refine Up.alloc ?_ _ | with_reducible refine Up.drew ?_ | refine Up.trans ?_ (by with_reducible assumption)))
  · rw [hf] at cF
    simp only [if_true]
    obtain ⟨-, h2, h3⟩ := fitsB_lits hf
    have cL := fun wx hr => learnI_any k v lo d wx h hr (by omega) h3
    obtain ⟨a, cap, rfl, -, -, -, -⟩ := hr
    clear h hv hf h3
    generalize learnK k d.data.toList = kk at *
    simp only [kV] at *
    go_enter Tryz.func124, Tryz.ntmps124
    go_wp2_with (first | ((go_at_call 150; (with_reducible refine (cV _ (hrt _ (by (repeat (first | with_reducible exact Up.refl _ | with_reducible assumption | with_reducible refine Up.set ?_ (by first | exact Nat.le_refl _ | (simp only []; omega) | (simp; omega)) _ | with_reducible refine Up.alloc ?_ _ | with_reducible refine Up.drew ?_ | refine Up.trans ?_ (by with_reducible assumption)))))).mono ?_); rintro e w1 ⟨rfl, U1⟩; have B1 := bcell U1; have Z1 := U1.size; (try simp at Z1); (try rw [Nat.add_one_le_iff] at Z1)); have Y1 : w.heap.size < w1.heap.size := (by have := U1.size; simp at this; omega)) | (go_at_call 30; (with_reducible refine (cF _).mono ?_); rintro e w2 ⟨rfl, U2⟩; have B2 := bcell U2; have Z2 := U2.size; (try simp at Z2); (try rw [Nat.add_one_le_iff] at Z2)) | (go_at_call 84; (with_reducible refine (cL _ (hrt _ (by (repeat (first | with_reducible exact Up.refl _ | with_reducible assumption | with_reducible refine Up.set ?_ (by first | exact Nat.le_refl _ | (simp only []; omega) | (simp; omega)) _ | with_reducible refine Up.alloc ?_ _ | with_reducible refine Up.drew ?_ | refine Up.trans ?_ (by with_reducible assumption)))))).mono ?_); rintro e w3 ⟨v3, y3, rfl, ho3, U3⟩; obtain ⟨a3, c3, rfl⟩ := ownsRow_shape ho3; have B3 := bcell U3; obtain ⟨hRl, q0, q1, q2, q3, q4, q5⟩ := KnAt.cells (b := w.heap.size + 1) (k := ⟨⟨0, 0, 0⟩, [], 0, 0⟩) (v := .slice none 0 0) (box_up (U1.trans (U2.trans U3)) (alloc2 w _ _)); have hfr := box_free (box_up (U1.trans (U2.trans U3)) (alloc2 w _ _)); have HO := Lib.hid ho3; clear ho3))
    obtain ⟨hRl, q0, q1, q2, q3, q4, q5⟩ := KnAt.cells (b := w.heap.size + 1) (k := ⟨⟨0, 0, 0⟩, [], 0, 0⟩) (v := .slice none 0 0) (box_up (U1.trans (U2.trans U3)) (alloc2 w _ _))
    refine bodyPost_ret (v := .tuple #[kV kk (.slice a3 kk.ps.length c3), .bool true]) (by simp [results, Tryz.results124, go_sem, hRl, q0, q1, q2, q3, q4, q5]) rfl ⟨_, rfl, ?_, ?_⟩
    · have hs := (U1.trans U2).size
      simp at hs
      refine ownsRow_base (base := w.heap.size + 2) ?_ (by omega)
      repeat (first | (with_reducible refine ownsRow_setne ?_ (by omega) _ _) | (with_reducible refine ownsRow_up ?_ (Up.alloc (Up.refl _) _)))
      with_reducible refine ownsRow_base HO.out ?_
      omega
    · (repeat (first | with_reducible exact Up.refl _ | with_reducible assumption | with_reducible refine Up.set ?_ (by first | exact Nat.le_refl _ | (simp only []; omega) | (simp; omega)) _ | with_reducible refine Up.alloc ?_ _ | with_reducible refine Up.drew ?_ | refine Up.trans ?_ (by with_reducible assumption)))

set_option maxRecDepth 100000 in
set_option maxHeartbeats 4000000 in
theorem startWI_any (s : SetD) (d : ByteArray) (w : World) (hl : -9223372036854775808 ≤ s.lit ∧ s.lit ≤ 9223372036854775807) (hd : d.size ≤ 1073741824) :
    Calls Tryz.prog 64  #[setV s, .string d] w (fun e w' => if fitsB s d.data.toList then KnPost2 (learnK (startK s) d.data.toList) w e w' else Same (.tuple #[noKn, .bool false]) w e w') := by
  cases hs : setOk s
  · have hf : fitsB s d.data.toList = false := by unfold fitsB; rw [hs]; rfl
    rw [hf]
    simp only [Bool.false_eq_true, if_false]
    have cS := fun wx => startI_no s wx hl hs
    clear hs hf
    simp only [setV] at *
    go_enter Tryz.func64, Tryz.ntmps64
    go_wp2_with ((go_at_call 83; (with_reducible refine (cS _).mono ?_); rintro e w1 ⟨rfl, U1⟩; have B1 := bcell U1; have Z1 := U1.size; (try simp at Z1); (try rw [Nat.add_one_le_iff] at Z1)); have Y1 : w.heap.size < w1.heap.size := (by have := U1.size; simp at this; omega); obtain ⟨hRl, q0, q1, q2, q3, q4, q5⟩ := KnAt.cells (b := w.heap.size + 1) (k := ⟨⟨0, 0, 0⟩, [], 0, 0⟩) (v := .slice none 0 0) (box_up U1 (alloc2 w _ _)); have hfr := box_free (box_up U1 (alloc2 w _ _)))
    obtain ⟨hRl, q0, q1, q2, q3, q4, q5⟩ := KnAt.cells (b := w.heap.size + 1) (k := ⟨⟨0, 0, 0⟩, [], 0, 0⟩) (v := .slice none 0 0) (box_up U1 (alloc2 w _ _))
    refine bodyPost_ret (v := .tuple #[noKn, .bool false]) (by simp [results, Tryz.results64, go_sem, hRl, q0, q1, q2, q3, q4, q5]) rfl ⟨rfl, ?_⟩
    (repeat (first | with_reducible exact Up.refl _ | with_reducible assumption | with_reducible refine Up.set ?_ (by first | exact Nat.le_refl _ | (simp only []; omega) | (simp; omega)) _ | with_reducible refine Up.alloc ?_ _ | with_reducible refine Up.drew ?_ | refine Up.trans ?_ (by with_reducible assumption)))
  · have cS := fun wx => startI_any s wx hs
    have cL := fun wx hr => learnKI_any (startK s) (.slice none 0 0) wx.heap.size d wx (startK_ok hs) (fun _ => rfl) hr hd
    have hrd : ∀ wx : World, RdP wx.heap.size wx (.slice none 0 0) (startK s).ps := fun wx => ⟨none, 0, rfl, Nat.le_refl _, by unfold maxLen; omega, fun _ => ⟨rfl, rfl⟩, fun h => absurd h (Nat.lt_irrefl _)⟩
    have cL' := fun wx => cL wx (hrd wx)
    have e1 : (startK s).set = s := rfl
    rw [e1] at cL'
    clear cL hrd hs e1
    cases hf : fitsB s d.data.toList
    · rw [hf] at cL'
      simp only [Bool.false_eq_true, if_false] at cL' ⊢
      simp only [setV, kV, startK] at *
      clear hf
      go_enter Tryz.func64, Tryz.ntmps64
      go_wp2_with (first | (go_at_call 83; (with_reducible refine (cS _).mono ?_); rintro e w1 ⟨rfl, U1⟩; have B1 := bcell U1; have Y1 : w.heap.size < w1.heap.size := (by have := U1.size; simp at this; omega); obtain ⟨hRl, q0, q1, q2, q3, q4, q5⟩ := KnAt.cells (b := w.heap.size + 1) (k := ⟨⟨0, 0, 0⟩, [], 0, 0⟩) (v := .slice none 0 0) (box_up U1 (alloc2 w _ _)); have hfr := box_free (box_up U1 (alloc2 w _ _))) | ((go_at_call 124; (with_reducible refine (cL' _).mono ?_); rintro e w2 ⟨rfl, U2⟩; have B2 := bcell U2; have Z2 := U2.size; (try simp at Z2); (try rw [Nat.add_one_le_iff] at Z2)); obtain ⟨hRl, q0, q1, q2, q3, q4, q5⟩ := KnAt.cells (b := w.heap.size + 1) (k := ⟨⟨0, 0, 0⟩, [], 0, 0⟩) (v := .slice none 0 0) (box_up U1 (box_up (Up.refl _) (alloc2 w _ _)) |> fun h => box_up U2 (box_up (Up.alloc (Up.refl _) _) h)); have hfr := box_free (box_up U2 (box_up (Up.alloc (Up.refl _) _) (box_up U1 (alloc2 w _ _))))))
      obtain ⟨hRl, q0, q1, q2, q3, q4, q5⟩ := KnAt.cells (b := w.heap.size + 1) (k := ⟨⟨0, 0, 0⟩, [], 0, 0⟩) (v := .slice none 0 0) (box_up (U1.trans ((Up.alloc (Up.refl _) _).trans U2)) (alloc2 w _ _))
      refine bodyPost_ret (v := .tuple #[noKn, .bool false]) (by simp [results, Tryz.results64, go_sem, hRl, q0, q1, q2, q3, q4, q5]) rfl ⟨rfl, ?_⟩
      (repeat (first | with_reducible exact Up.refl _ | with_reducible assumption | with_reducible refine Up.set ?_ (by first | exact Nat.le_refl _ | (simp only []; omega) | (simp; omega)) _ | with_reducible refine Up.alloc ?_ _ | with_reducible refine Up.drew ?_ | refine Up.trans ?_ (by with_reducible assumption)))
    · rw [hf] at cL'
      simp only [if_true] at cL' ⊢
      clear hf
      have e2 : (startK s).ps = [] := rfl
      generalize learnK (startK s) d.data.toList = kk at *
      simp only [setV, kV, startK] at *
      go_enter Tryz.func64, Tryz.ntmps64
      go_wp2_with (first | (go_at_call 83; (with_reducible refine (cS _).mono ?_); rintro e w1 ⟨rfl, U1⟩; have B1 := bcell U1; have Y1 : w.heap.size < w1.heap.size := (by have := U1.size; simp at this; omega)) | (go_at_call 124; (with_reducible refine (cL' _).mono ?_); rintro e w3 ⟨v3, rfl, ho3, U3⟩; obtain ⟨a3, c3, rfl⟩ := ownsRow_shape ho3; obtain ⟨hRl, q0, q1, q2, q3, q4, q5⟩ := KnAt.cells (b := w.heap.size + 1) (k := ⟨⟨0, 0, 0⟩, [], 0, 0⟩) (v := .slice none 0 0) (box_up (U1.trans ((Up.alloc (Up.refl _) _).trans U3)) (alloc2 w _ _)); have hfr := box_free (box_up (U1.trans ((Up.alloc (Up.refl _) _).trans U3)) (alloc2 w _ _)); have HO := Lib.hid ho3; clear ho3))
      obtain ⟨hRl, q0, q1, q2, q3, q4, q5⟩ := KnAt.cells (b := w.heap.size + 1) (k := ⟨⟨0, 0, 0⟩, [], 0, 0⟩) (v := .slice none 0 0) (box_up (U1.trans ((Up.alloc (Up.refl _) _).trans U3)) (alloc2 w _ _))
      refine bodyPost_ret (v := .tuple #[kV kk (.slice a3 kk.ps.length c3), .bool true]) (by simp [results, Tryz.results64, go_sem, hRl, q0, q1, q2, q3, q4, q5]) rfl ⟨_, rfl, ?_, ?_⟩
      · have hs := U1.size
        simp at hs
        refine ownsRow_base (base := w.heap.size + 2) ?_ (by omega)
        repeat (with_reducible refine ownsRow_setne ?_ (by omega) _ _)
        exact ownsRow_base HO.out (by simp; omega)
      · (repeat (first | with_reducible exact Up.refl _ | with_reducible assumption | with_reducible refine Up.set ?_ (by first | exact Nat.le_refl _ | (simp only []; omega) | (simp; omega)) _ | with_reducible refine Up.alloc ?_ _ | with_reducible refine Up.drew ?_ | refine Up.trans ?_ (by with_reducible assumption)))

end Go.Proofs.YtekbbnkkninolaaGreat

/- Walks of the program's CompressWith, SealStream, makeBlock, BlockOf, and of the reference's SealStream. Conditions: the strings are no longer than 2^30 bytes. -/
namespace Go.Proofs.YtekbbnkkninolaaGreat
set_option linter.unusedVariables false
set_option linter.unusedSimpArgs false
open Go Go.RowKit

/-- The block of data that has been compressed, or not. -/
def mkB (o : Option (List UInt8)) (d : ByteArray) : BlkD := match o with
  | some c => if c.length < d.size then ⟨0, false, d.size, bs c⟩ else ⟨0, true, d.size, d⟩
  | none => ⟨0, true, d.size, d⟩

set_option maxRecDepth 100000 in
set_option maxHeartbeats 4000000 in
theorem makeBI_any (k : KnD) (v : Value) (lo : Nat) (d : ByteArray) (w : World) (h : k.Ok) (hv : k.last = -1 → k.base = k.ps.length) (hr : RdP lo w v k.ps) (hd : d.size ≤ 1073741824) :
    Calls Tryz.prog 108  #[kV k v, .string d] w (Same (blkV (mkB (compO k d.data.toList) d)) w) := by
  have cC := fun wx hr => compI_any k v lo d wx h hv hr hd
  have hrt := fun (wq : World) (hu : Up w wq) => hr.up hu
  generalize compO k d.data.toList = co at *
  unfold optS at cC
  obtain ⟨a, cap, rfl, -, -, -, -⟩ := hr
  clear h hv
  unfold mkB
  cases co with
  | none =>
    simp only [Option.getD_none, Option.isSome_none, kV, blkV] at *
    go_enter Tryz.func108, Tryz.ntmps108
    go_wp2_with ((go_at_call 78; (with_reducible refine (cC _ (hrt _ (by (repeat (first | with_reducible exact Up.refl _ | with_reducible assumption | with_reducible refine Up.set ?_ (by first | exact Nat.le_refl _ | (simp only []; omega) | (simp; omega)) _ | with_reducible refine Up.alloc ?_ _ | with_reducible refine Up.drew ?_ | refine Up.trans ?_ (by with_reducible assumption)))))).mono ?_); rintro e w1 ⟨rfl, U1⟩; have B1 := bcell U1; have Z1 := U1.size; (try simp at Z1); (try rw [Nat.add_one_le_iff] at Z1)))
    refine bodyPost_ret (v := .agg #[.int .i64 0, .bool true, .int .i64 d.size, .string d]) (by simp [results, Tryz.results108, go_sem, B1]; try rfl) rfl ⟨rfl, ?_⟩
    (repeat (first | with_reducible exact Up.refl _ | with_reducible assumption | with_reducible refine Up.set ?_ (by first | exact Nat.le_refl _ | (simp only []; omega) | (simp; omega)) _ | with_reducible refine Up.alloc ?_ _ | with_reducible refine Up.drew ?_ | refine Up.trans ?_ (by with_reducible assumption)))
  | some c =>
    have hsz := bs_size c
    simp only [Option.getD_some, Option.isSome_some, kV] at *
    by_cases hlt : c.length < d.size
    · rw [if_pos hlt]
      simp only [blkV]
      go_enter Tryz.func108, Tryz.ntmps108
      go_wp2_with ((go_at_call 78; (with_reducible refine (cC _ (hrt _ (by (repeat (first | with_reducible exact Up.refl _ | with_reducible assumption | with_reducible refine Up.set ?_ (by first | exact Nat.le_refl _ | (simp only []; omega) | (simp; omega)) _ | with_reducible refine Up.alloc ?_ _ | with_reducible refine Up.drew ?_ | refine Up.trans ?_ (by with_reducible assumption)))))).mono ?_); rintro e w1 ⟨rfl, U1⟩; have B1 := bcell U1; have Z1 := U1.size; (try simp at Z1); (try rw [Nat.add_one_le_iff] at Z1)))
      refine bodyPost_ret (v := .agg #[.int .i64 0, .bool false, .int .i64 d.size, .string (bs c)]) (by simp [results, Tryz.results108, go_sem, B1]; try rfl) rfl ⟨rfl, ?_⟩
      (repeat (first | with_reducible exact Up.refl _ | with_reducible assumption | with_reducible refine Up.set ?_ (by first | exact Nat.le_refl _ | (simp only []; omega) | (simp; omega)) _ | with_reducible refine Up.alloc ?_ _ | with_reducible refine Up.drew ?_ | refine Up.trans ?_ (by with_reducible assumption)))
    · rw [if_neg hlt]
      simp only [blkV]
      go_enter Tryz.func108, Tryz.ntmps108
      go_wp2_with ((go_at_call 78; (with_reducible refine (cC _ (hrt _ (by (repeat (first | with_reducible exact Up.refl _ | with_reducible assumption | with_reducible refine Up.set ?_ (by first | exact Nat.le_refl _ | (simp only []; omega) | (simp; omega)) _ | with_reducible refine Up.alloc ?_ _ | with_reducible refine Up.drew ?_ | refine Up.trans ?_ (by with_reducible assumption)))))).mono ?_); rintro e w1 ⟨rfl, U1⟩; have B1 := bcell U1; have Z1 := U1.size; (try simp at Z1); (try rw [Nat.add_one_le_iff] at Z1)))
      refine bodyPost_ret (v := .agg #[.int .i64 0, .bool true, .int .i64 d.size, .string d]) (by simp [results, Tryz.results108, go_sem, B1]; try rfl) rfl ⟨rfl, ?_⟩
      (repeat (first | with_reducible exact Up.refl _ | with_reducible assumption | with_reducible refine Up.set ?_ (by first | exact Nat.le_refl _ | (simp only []; omega) | (simp; omega)) _ | with_reducible refine Up.alloc ?_ _ | with_reducible refine Up.drew ?_ | refine Up.trans ?_ (by with_reducible assumption)))

set_option maxRecDepth 100000 in
set_option maxHeartbeats 1000000 in
theorem sizeVI_any (n : Int) (w : World) : Calls Tryz.prog 107  #[.int .i64 n] w (fun e w' => e = .returned (.bool (inB n 1 64)) ∧ w = w') := by
  by_cases h1 : 1 ≤ n
  · by_cases h2 : n ≤ 64
    · rw [show inB n 1 64 = true from inB_iff.2 ⟨h1, h2⟩]
      go_enter Tryz.func107, Tryz.ntmps107
      go_wp2
      go_ret
      exact ⟨ret_bool (by first | rfl | (simp; done) | (simp; omega)), rfl⟩
    · rw [show inB n 1 64 = false from inB_not.2 (by omega)]
      go_enter Tryz.func107, Tryz.ntmps107
      go_wp2
      go_ret
      exact ⟨ret_bool (by first | rfl | (simp; done) | (simp; omega)), rfl⟩
  · rw [show inB n 1 64 = false from inB_not.2 (by omega)]
    go_enter Tryz.func107, Tryz.ntmps107
    go_wp2
    go_ret
    exact ⟨ret_bool (by first | rfl | (simp; done) | (simp; omega)), rfl⟩

theorem blockD_mk {s : SetD} {dict : List UInt8} {n : Int} {d : ByteArray} (h : fitsB s dict = true) : blockD s dict n d = ⟨n, (mkB (compO (learnK (startK s) dict) d.data.toList) d).raw, (mkB (compO (learnK (startK s) dict) d.data.toList) d).size, (mkB (compO (learnK (startK s) dict) d.data.toList) d).body⟩ := by
  unfold blockD compW mkB
  rw [if_pos h]
  cases compO (learnK (startK s) dict) d.data.toList with
  | none => rfl
  | some c =>
    dsimp only
    split <;> simp_all

end Go.Proofs.YtekbbnkkninolaaGreat

/- Walk of the program's makeBlocks. Conditions: what is known is valid and can be read; the data is no longer than 2000 bytes. -/
namespace Go.Proofs.YtekbbnkkninolaaGreat
set_option linter.unusedVariables false
set_option linter.unusedSimpArgs false
open Go Go.RowKit

/-- The blocks of data, all with the number 0. -/
def blksN (k : KnD) (size : Nat) : Nat → List UInt8 → List BlkD
  | 0, _ => []
  | n + 1, d => if d = [] then [] else mkB (compO k (d.take size)) (bs (d.take size)) :: blksN k size n (d.drop size)
theorem blksN_nil (k : KnD) (size n : Nat) : blksN k size n [] = [] := by cases n <;> simp [blksN]
theorem blksN_step {k : KnD} {size n : Nat} {d : List UInt8} (hd : d ≠ []) : blksN k size (n + 1) d = mkB (compO k (d.take size)) (bs (d.take size)) :: blksN k size n (d.drop size) := by rw [blksN, if_neg hd]
theorem mkB_bd (o : Option (List UInt8)) (d : ByteArray) : (mkB o d).num = 0 ∧ (mkB o d).size = d.size ∧ (mkB o d).body.size ≤ d.size := by
  unfold mkB
  split
  · split
    · exact ⟨rfl, rfl, by rw [bs_size]; omega⟩
    · exact ⟨rfl, rfl, Nat.le_refl _⟩
  · exact ⟨rfl, rfl, Nat.le_refl _⟩
/-- A new slice of one block. -/
def NewB (row : Option Nat) (b : BlkD) (v : Value) (w : World) : Prop := ∃ x, v = .slice (some ⟨x, 0, none⟩) 1 1 ∧ some x ≠ row ∧ w.heap[x]? = some (.cells (blkC b).toArray 61)
theorem newB_closed {row : Option Nat} {b : BlkD} : ∀ (v : Value) (w w' : World), NewB row b v w → w.grownBy w' row → NewB row b v w' := fun v w w' ⟨x, h1, h2, h3⟩ hg => ⟨x, h1, h2, gbox hg h3 h2⟩
theorem newB_cells {w : World} {x : Nat} {b : BlkD} (h : w.heap[x]? = some (.cells (blkC b).toArray 61)) : ∀ j u, (blkC b)[j]? = some u → w.cell? ((⟨x, 0, none⟩ : Addr).add j) = some u := by
  intro j u hu
  have hadd : (⟨x, 0, none⟩ : Addr).add j = ⟨x, j, none⟩ := by unfold Addr.add; split <;> simp_all
  rw [hadd, box_cell h]
  simpa using hu
abbrev ownB (w : World) (base : Nat) (v : Value) (l : List BlkD) : Prop := w.ownsRow base 61 4 v l.length (cellsB l)
structure MbAt (T : List BlkD) (k : KnD) (v : Value) (size : Nat) (L : List UInt8) (w : World) (f m : Nat) (acc : List BlkD) (vb : Value) (wr : World) : Prop where
  tot : acc ++ blksN k size m (L.drop f) = T
  len : (L.drop f).length ≤ m
  fl : f ≤ 4096
  al : acc.length ≤ f
  kn : KnAt w.heap.size k v wr
  own : ownB wr (w.heap.size + 1) vb acc
  up : Up w wr
def RelMb (T : List BlkD) (k : KnD) (v : Value) (size : Nat) (L : List UInt8) (w : World) (vb i : Value) (wr : World) : Prop := ∃ (f m : Nat) (acc : List BlkD), i = .int .i64 f ∧ MbAt T k v size L w f m acc vb wr

set_option maxRecDepth 100000 in
set_option maxHeartbeats 8000000 in
theorem makeBlocksI_any (k : KnD) (v : Value) (lo : Nat) (L : List UInt8) (size : Nat) (w : World) (h : k.Ok) (hv : k.last = -1 → k.base = k.ps.length) (hr : RdP lo w v k.ps) (hL : L.length ≤ 2000) (hs1 : 1 ≤ size) (hs2 : size ≤ 64) :
    Calls Tryz.prog 114  #[kV k v, .string (bs L), .int .i64 size] w (fun e w' => ∃ vb, e = .returned vb ∧ ownB w' w.heap.size vb (blksN k size L.length L) ∧ Up w w') := by
  obtain ⟨i0, hi, hz0, hz1, hz2⟩ := info_parts infoBlock
  have cM := fun wx (d : ByteArray) hr hd => makeBI_any k v lo d wx h hv hr hd
  have hrt := fun (wq : World) (hu : Up w wq) => hr.up hu
  obtain ⟨T, HT⟩ : ∃ T, Hid (blksN k size L.length L = T) := ⟨_, rfl⟩
  rw [HT.out]
  have hbz := bs_size L
  obtain ⟨a, cap, rfl, -, -, -, -⟩ := hr
  clear h hv
  simp only [kV] at *
  go_enter Tryz.func114, Tryz.ntmps114
  go_wp2
  go_loopw [7, 8] (fun vb i wr => RelMb T k (.slice a k.ps.length cap) size L w vb i wr) (fun _ i _ => L.length - (intOf i).toNat)
  case atStart => exact ⟨0, L.length, [], rfl, ⟨by rw [List.drop_zero]; exact HT.out, by simp, by omega, by simp, (MapKept.heap_alloc w _).1, World.ownsRow_nil _ _ _ _, by (repeat (first | with_reducible exact Up.refl _ | with_reducible assumption | with_reducible refine Up.set ?_ (by first | exact Nat.le_refl _ | (simp only []; omega) | (simp; omega)) _ | with_reducible refine Up.alloc ?_ _ | with_reducible refine Up.drew ?_ | refine Up.trans ?_ (by with_reducible assumption)))⟩⟩
  case round =>
    obtain ⟨f, m, acc, rfl, hM⟩ := hrel
    obtain ⟨ab, cb, rfl⟩ := ownsRow_shape hM.own
    have HM := Lib.hid hM
    have hfl := hM.fl
    have hal := hM.al
    obtain ⟨hb0, r0, r1, r2, r3, r4, r5⟩ := hM.kn.cells
    have hlm := hM.len
    rw [List.length_drop] at hlm
    clear hM
    by_cases hlt : f < L.length
    · have hne : L.drop f ≠ [] := fun e => by rw [List.drop_eq_nil_iff] at e; omega
      obtain ⟨m', rfl⟩ : ∃ m', m = m' + 1 := ⟨m - 1, by omega⟩
      have hmn : min (f + size) L.length = f + min size (L.length - f) := by omega
      have hsub : (bs L).extract f (min ((f : Int) + (size : Int)) (L.length : Int)).toNat = bs ((L.drop f).take size) := by
        rw [show (min ((f : Int) + (size : Int)) (L.length : Int)).toNat = min (f + size) L.length by omega, bs_ext]
        congr 1
        rw [List.take_eq_take_iff, List.length_drop]
        omega
      have HSUB := Lib.hid hsub
      have htl : ((L.drop f).take size).length ≤ 64 := by rw [List.length_take]; omega
      have cM2 := fun wx hr => cM wx (bs ((L.drop f).take size)) hr (by rw [bs_size]; omega)
      rw [bs_data] at cM2
      obtain ⟨n1, n2, n3⟩ := mkB_bd (compO k ((L.drop f).take size)) (bs ((L.drop f).take size))
      have HTT : Hid (acc ++ mkB (compO k ((L.drop f).take size)) (bs ((L.drop f).take size)) :: blksN k size m' (L.drop (f + size)) = T) := by
        have := HM.out.tot
        rw [blksN_step hne, List.drop_drop] at this
        exact this
      generalize mkB (compO k ((L.drop f).take size)) (bs ((L.drop f).take size)) = B at *
      rw [← HSUB.out] at cM2
      obtain ⟨bn, br, bz, bb⟩ := B
      have hmin : (min (f + size) L.length : Nat) ≤ 4096 := by omega
      simp only [blkV] at cM2
      clear n1 n2 n3 hsub htl cM hmn hlm hne
      go_wp2
      refine wp_region_own 14 13 (Value.ownBlock (.slice ab acc.length cb)) (by kernel_rfl) (by kernel_rfl) ?_
      simp only [List.take, List.drop]
      repeat (refine wpG_step (fun K hK => ?_); go_simp; (try simp only [↓IntWalk.iteOmega]); first
        | (refine hK _ _ ?_; clear hK K)
        | (refine stepG_own (by rfl) (by kernel_rfl) ((fun v w' => w'.ownsRow (w.heap.size + 1) 61 4 v (acc.length + 1) (cellsB acc ++ blkC ⟨bn, br, bz, bb⟩))) ((fun v w w' h hu => ownsRow_up h hu)) (fun wq hwq => ?_) ?_
           · ((repeat (first | refine fills_no (by rfl) ?_ | refine fills_yes (by rfl) (fun vq hvq => ?_))); simp only [List.filter_nil, fills]; (obtain ⟨bq, eqb, nb, hcb⟩ := hvq; exact gAt_append (.tmp 16) (.tmp 28) 70 (by rfl) (w.heap.size + 1) 61 i0 (.agg #[.int .i64 0, .bool false, .int .i64 0, .string ⟨#[]⟩]) 4 40 Tryz.underlying70 hi hz0 hz1 hz2 rfl (by decide) (.slice ab acc.length cb) acc.length (cellsB acc) (by rfl) (ownsRow_up HM.out.own hwq) ⟨bq, 0, none⟩ 1 1 (blkC ⟨bn, br, bz, bb⟩) (by exact eqb) rfl (newB_cells hcb) (blkC_one _) (by unfold maxLen; omega) (by omega) (by have := hwq.size; omega) _ rfl))
           refine hK _ _ ?_; clear hK K)
        | (refine stepG_c (by rfl) ?_ ?_ ?_
           rotate_left
           · intro wq hwq; (have hbq := gcell hwq; (repeat (first | refine fills_no (by rfl) ?_ | refine fills_yes (by rfl) (fun vq hvq => ?_))); simp only [List.filter_nil, fills]; unfold upAt; (try ((obtain ⟨-, r0, r1, r2, r3, r4, r5⟩ := KnAt.cells (HM.out.kn.gr hwq (low_ne (w := w) HM.out.own (by omega)))))); go_simp; (try go_bits); (try simp only [↓IntWalk.iteOmega]); (try (rw [dif_pos (by omega)]; go_simp; try go_bits)); first | exact upOut_value | (apply upOut_call; (go_at_call 108; with_reducible exact cM2 _ (hrt _ (Up.grown HM.out.up hwq (fun y hy => by have := (HM.out.own.lt y hy).1; omega))))) | (apply upOut_eq; (go_at_call 108; with_reducible exact cM2 _ (hrt _ (Up.grown HM.out.up hwq (fun y hy => by have := (HM.out.own.lt y hy).1; omega))))))
           go_simp; refine hK _ _ ?_; clear hK K)
        | (refine stepG_m (by rfl) (by kernel_rfl) (NewB (Value.ownBlock (.slice ab acc.length cb)) ⟨bn, br, bz, bb⟩) (newB_closed) (fun wq hwq => ?_) ?_
           · (have hbq := gcell hwq; (repeat (first | refine fills_no (by rfl) ?_ | refine fills_yes (by rfl) (fun vq hvq => ?_))); simp only [List.filter_nil, fills]; unfold upAt; (try ((obtain ⟨-, r0, r1, r2, r3, r4, r5⟩ := KnAt.cells (HM.out.kn.gr hwq (low_ne (w := w) HM.out.own (by omega)))))); go_simp; (try go_bits); (try simp only [↓IntWalk.iteOmega]); (try (rw [dif_pos (by omega)]; go_simp; try go_bits)); exact upOut_make ((Up.refl _).alloc _) ⟨_, rfl, own_ne HM.out.own hwq.size, (MapKept.heap_alloc _ _).1⟩)
           refine hK _ _ ?_; clear hK K))
      refine wpG_nil (by rfl) (fun wq hwq => ?_)
      simp only [fills]
      rintro v11 h11 v10 -
      obtain ⟨a3, c3, rfl⟩ := ownsRow_shape h11
      have hk9 := HM.out.kn.gr hwq (low_ne (w := w) HM.out.own (by omega))
      have hu9 := Up.grown HM.out.up hwq (fun y hy => by have := (HM.out.own.lt y hy).1; omega)
      have H9 := Lib.hid (And.intro hk9 (And.intro hu9 h11))
      clear hk9 hu9 h11 hwq
      go_wp2
      go_roundw
      case rel => exact ⟨f + size, m', acc ++ [⟨bn, br, bz, bb⟩], by go_num, ⟨by rw [← HTT.out, List.append_assoc]; rfl, by have := HM.out.len; rw [List.length_drop] at *; omega, by omega, by simp; omega, H9.out.1, by unfold ownB; rw [cellsB_snoc, List.length_append]; exact H9.out.2.2, H9.out.2.1⟩⟩
      case measure => simp [intOf]; omega
    · have HE : Hid (acc = T) := by
        have := HM.out.tot
        rw [List.drop_of_length_le (by omega), blksN_nil, List.append_nil] at this
        exact this
      go_wp2
      go_ret
      exact ⟨_, rfl, by rw [← HE.out]; exact ownsRow_base HM.out.own (Nat.le_succ _), HM.out.up⟩

end Go.Proofs.YtekbbnkkninolaaGreat

/- strings.Builder: copyCheck and WriteString at a builder that the call has made itself. Conditions: the bytes are fewer than 2^47. -/
namespace Go.Proofs.YtekbbnkkninolaaGreat
set_option linter.unusedVariables false
set_option linter.unusedSimpArgs false
open Go Go.RowKit

theorem infoByteB : (Tryz.prog.info? 5).map (fun i => (i.zero, i.size, i.bytes)) = some (some (.int .u8 0), 1, 1) := by kernel_rfl
theorem sizeSb : (Tryz.prog.info? 137).map (·.size) = some 2 := by kernel_rfl
theorem liesSb : liesAt Tryz.prog Tryz.prog.depth 137 (2 / Tryz.prog.cellsOf 137) 0 137 1 = true := by kernel_rfl
abbrev SbAt (B b : Nat) (p : Value) (l : List Value) (w : World) : Prop := Lib.BuilderAt 137 5 B b p l w
abbrev IsSb (B b : Nat) (l : List Value) (w : World) : Prop := Lib.IsBuilder 137 5 B b l w

set_option maxHeartbeats 1000000 in
set_option maxRecDepth 100000 in
theorem sbCheck_used (b : Nat) (w : World) (h0 : w.cell? ⟨b, 0, none⟩ = some (.pointer (some ⟨b, 0, none⟩))) :
    Calls Tryz.prog 151 #[.pointer (some ⟨b, 0, none⟩)] w fun e w' => e = .returned (.tuple #[]) ∧ w' = w := by
  obtain ⟨j, hj, _⟩ := Option.map_eq_some_iff.1 sizeSb
  go_enter Tryz.func151, Tryz.ntmps151
  go_wp2
  rw [Lib.run_neq_ptr_same w _ Tryz.underlying135 hj]
  go_wp2
  go_end0
  exact ⟨rfl, rfl⟩

set_option maxHeartbeats 1000000 in
set_option maxRecDepth 100000 in
theorem sbCheck_fresh (b : Nat) (w : World) (h0 : w.cell? ⟨b, 0, none⟩ = some (.pointer none)) (hsh : w.shape? b = some (137, 2)) (hfz : w.frozen? ⟨b, 0, none⟩ = false) :
    Calls Tryz.prog 151 #[.pointer (some ⟨b, 0, none⟩)] w fun e w' => e = .returned (.tuple #[]) ∧ w' = w.setCell ⟨b, 0, none⟩ (.pointer (some ⟨b, 0, none⟩)) := by
  obtain ⟨j, hj, hjs⟩ := Option.map_eq_some_iff.1 sizeSb
  go_enter Tryz.func151, Tryz.ntmps151
  go_wp2
  rw [Lib.run_to_unsafe w ⟨b, 0, none⟩ Tryz.underlying135 Tryz.underlying189 hj (by rw [hjs]; decide) hsh (Nat.zero_lt_succ 1)]
  simp only [Result.andThen]
  rw [Oper.upon_value]
  go_wp2
  rw [run_callFunc_extern Tryz.func179 (by kernel_rfl) (by kernel_rfl) (by kernel_rfl) (e := Extern.AbiNoEscape.same) (by kernel_rfl)]
  rw [Lib.run_noEscape]
  simp only [Result.andThen]
  rw [Oper.upon_value]
  go_wp2
  rw [Lib.run_from_unsafe w ⟨b, 0, none⟩ Tryz.underlying189 Tryz.underlying135 hj hsh liesSb]
  simp only [Result.andThen]
  rw [Oper.upon_value]
  go_wp2
  go_end0
  exact ⟨rfl, rfl⟩

theorem sbCheck_any (B b : Nat) (l : List Value) (w : World) (h : IsSb B b l w) :
    Calls Tryz.prog 151 #[.pointer (some ⟨b, 0, none⟩)] w fun e w' => e = .returned (.tuple #[]) ∧ (SbAt B b (.pointer (some ⟨b, 0, none⟩)) l w' ∧ Below B w w') := by
  rcases h with h | h
  · refine (sbCheck_fresh b w h.cell0 h.shape h.frozen0).mono ?_
    rintro e w' ⟨rfl, rfl⟩
    exact ⟨rfl, h.used _, (Below.refl B w).setCell (p := ⟨b, 0, none⟩) h.1 _⟩
  · refine (sbCheck_used b w h.cell0).mono ?_
    rintro e w' ⟨rfl, rfl⟩
    exact ⟨rfl, h, Below.refl B _⟩

set_option maxHeartbeats 2000000 in
set_option maxRecDepth 100000 in
theorem sbWrite_any (B b : Nat) (l : List Value) (s : ByteArray) (w : World) (h : IsSb B b l w) (hlen : l.length + s.size ≤ 140737488355328) (hBw : B ≤ w.heap.size) :
    Calls Tryz.prog 125 #[.pointer (some ⟨b, 0, none⟩), .string s] w fun e w' => e = .returned (.tuple #[.int .i64 s.size, .nilIface]) ∧ (SbAt B b (.pointer (some ⟨b, 0, none⟩)) (l ++ Lib.strCells s) w' ∧ Below B w w') := by
  obtain ⟨i0, hi, hz0, hz1, hz2⟩ := info_parts infoByteB
  have cK := fun wx hx => sbCheck_any B b l wx hx
  go_enter Tryz.func125, Tryz.ntmps125
  go_wp2_with fail
  (with_reducible refine (cK _ h).mono ?_)
  rintro e w1 ⟨rfl, h1, hb1⟩
  obtain ⟨hB, v, hbk, hown, hne⟩ := h1
  have c0 : w1.cell? ⟨b, 0, none⟩ = some (.pointer (some ⟨b, 0, none⟩)) := by rw [Lib.cell_of_heap hbk]; rfl
  have c1 : w1.cell? ⟨b, 1, none⟩ = some v := by rw [Lib.cell_of_heap hbk]; rfl
  go_wp2_with (at_builtin; refine Lib.wpList_append_own_string _ rfl _ _ 38 9 rfl B 5 i0 Tryz.underlying38 Tryz.underlying9 hi hz0 hz1 hz2 _ _ _ rfl hown s rfl ?c3 ?c4 ?c5 ?_)
  case c3 => unfold maxLen; omega
  case c4 => omega
  case c5 => have := hb1.size; omega
  intro v' w2 hown' hgrow _
  have hlt : b < w1.heap.size := by
    rcases Nat.lt_or_ge b w1.heap.size with h' | h'
    · exact h'
    · simp [Array.getElem?_eq_none h'] at hbk
  have hb2 : w2.heap[b]? = some (.cells #[.pointer (some ⟨b, 0, none⟩), v] 137 (0, 0)) := by
    rw [hgrow.block b hlt (fun e => hne e.symm)]
    exact hbk
  have d0 : w2.cell? ⟨b, 0, none⟩ = some (.pointer (some ⟨b, 0, none⟩)) := by rw [Lib.cell_of_heap hb2]; rfl
  have d1 : w2.cell? ⟨b, 1, none⟩ = some v := by rw [Lib.cell_of_heap hb2]; rfl
  have f1 : w2.frozen? ⟨b, 1, none⟩ = false := Lib.frozen_of_heap hb2 1
  obtain ⟨ao, n', cap, rfl⟩ : ∃ ao n' cap, v' = .slice ao n' cap := by
    rcases hown'.2 with ⟨hv, _⟩ | ⟨g, cap, cur, hv, _⟩
    · exact ⟨_, _, _, hv⟩
    · exact ⟨_, _, _, hv⟩
  go_wp2
  go_ret2
  refine ⟨rfl, ?_, ?_⟩
  · exact Lib.BuilderAt.put (T := 137) (e := 5) hB hb2 (bs' := l ++ Lib.strCells s) (by simpa [Lib.strCells_length] using hown') (by decide)
  · exact (hb1.grown hgrow (by have := hb1.size; omega) (fun k hk => (hown.lt k hk).1)).setCell (p := ⟨b, 1, none⟩) hB _

end Go.Proofs.YtekbbnkkninolaaGreat

/- Walks of the program's makeContainer and MakeContainer. Conditions: as each says. -/
namespace Go.Proofs.YtekbbnkkninolaaGreat
set_option linter.unusedVariables false
set_option linter.unusedSimpArgs false
open Go Go.RowKit

theorem IsSb.up {B b : Nat} {l : List Value} {w w' : World} (h : IsSb B b l w) (hu : Up w w') : IsSb B b l w' := by
  have hs : ∀ p, SbAt B b p l w → SbAt B b p l w' := fun p ⟨h1, v, h2, h3, h4⟩ => ⟨h1, v, box_up hu h2, ownsRow_up h3 hu, h4⟩
  exact h.imp (hs _) (hs _)
theorem IsSb.lt {B b : Nat} {l : List Value} {w : World} (h : IsSb B b l w) : b < w.heap.size := h.elim (fun h => h.lt) (fun h => h.lt)
theorem strCells_bs9 (l : List UInt8) : Lib.strCells (bs l) = Lib.byteCells l := by simp [Lib.strCells, Lib.byteCells, bs_data]
theorem byteCells_app (a b : List UInt8) : Lib.byteCells a ++ Lib.byteCells b = Lib.byteCells (a ++ b) := by simp [Lib.byteCells]
theorem isSb_new (w : World) : IsSb w.heap.size w.heap.size (Lib.byteCells []) (w.alloc (.cells #[.pointer none, .slice none 0 0] 137)) :=
  .inl ⟨Nat.le_refl _, _, (MapKept.heap_alloc w _).1, World.ownsRow_nil _ _ _ _, by simp [Value.ownBlock]⟩
/-- What String gives. -/
theorem sbString_any (B b : Nat) (l : List UInt8) (w : World) (h : IsSb B b (Lib.byteCells l) w) (hB : B ≤ w.heap.size) :
    Calls Tryz.prog 126 #[.pointer (some ⟨b, 0, none⟩)] w (fun e w' => e = .returned (.string (bs l)) ∧ Below B w w') :=
  (Tryz.Builder_String_any_f B b l w (Lib.IsBuilderF.of h) hB).mono fun e w' ⟨he, h1, h2⟩ => ⟨he, h2⟩

/-- The bytes of blocks with new numbers. -/
def numbT (i : Nat) : List BlkD → List UInt8
  | [] => []
  | b :: l => (textB i b.raw b.size b.body).data.toList ++ numbT (i + 1) l
/-- Blocks that may stand in a container. -/
structure McOk (l : List BlkD) : Prop where
  acc : accOk l
  sum : sizeSum l ≤ 2000
  form : ∀ (i : Nat) (h : i < l.length), formB (i : Nat) (l[i]).raw (l[i]).size (l[i]).body = true
theorem textB_sz (n : Int) (r : Bool) (s : Int) (b : ByteArray) : (textB n r s b).size = 10 + b.size := by
  simp [textB, inner, strOfNums_size, two_size]
  omega
/-- A row of blocks that can be read. -/
def RdB (w : World) (v : Value) (l : List BlkD) : Prop := ∃ a cap, v = .slice a l.length cap ∧ l.length ≤ cap ∧ cap ≤ maxLen ∧ (0 < l.length → ∃ g, a = some ⟨g, 0, none⟩ ∧ g < w.heap.size ∧ ∀ i (h : i < l.length), w.cell? ⟨g, i * 4, none⟩ = some (.int .i64 (l[i]).num) ∧ w.cell? ⟨g, i * 4 + 1, none⟩ = some (.bool (l[i]).raw) ∧ w.cell? ⟨g, i * 4 + 2, none⟩ = some (.int .i64 (l[i]).size) ∧ w.cell? ⟨g, i * 4 + 3, none⟩ = some (.string (l[i]).body))
theorem RdB.low {w w' : World} {v : Value} {l : List BlkD} (h : RdB w v l) (hb : Below w.heap.size w w') : RdB w' v l := by
  obtain ⟨a, cap, h1, h2, h3, h4⟩ := h
  refine ⟨a, cap, h1, h2, h3, fun hp => ?_⟩
  obtain ⟨g, e1, e2, e3⟩ := h4 hp
  refine ⟨g, e1, Nat.lt_of_lt_of_le e2 hb.size, fun i hi => ?_⟩
  obtain ⟨c0, c1, c2, c3⟩ := e3 i hi
  exact ⟨(hb.cell (p := ⟨g, _, none⟩) e2).trans c0, (hb.cell (p := ⟨g, _, none⟩) e2).trans c1, (hb.cell (p := ⟨g, _, none⟩) e2).trans c2, (hb.cell (p := ⟨g, _, none⟩) e2).trans c3⟩
theorem RdB.of_own {w : World} {base : Nat} {v : Value} {l : List BlkD} (h : ownB w base v l) : RdB w v l := by
  obtain ⟨a, cap, rfl, hm, hsome⟩ := ownsRow_any h
  by_cases hp : 0 < l.length
  · obtain ⟨g, rfl, hnc, hcm, hbg, hg, hcells⟩ := hsome hp
    refine ⟨_, cap, rfl, hnc, hcm, fun _ => ⟨g, rfl, hg, fun i hi => ?_⟩⟩
    exact blk_cells (w := w) hcells hi
  · have hcp := ownsRow_cap h
    exact ⟨_, cap, rfl, hcp.1, by unfold maxLen; exact hcp.2, fun h => absurd h hp⟩

structure McAt (T : List UInt8) (l : List BlkD) (w1 : World) (j : Nat) (acc : List UInt8) (wr : World) : Prop where
  le : j ≤ l.length
  tot : acc ++ numbT j (l.drop j) = T
  al : acc.length ≤ 74 * j
  sb : IsSb w1.heap.size w1.heap.size (Lib.byteCells acc) wr
  up : Up w1 wr
def RelMc (T : List UInt8) (l : List BlkD) (w1 : World) (i : Value) (wr : World) : Prop := ∃ (j : Nat) (acc : List UInt8), i = .int .i64 j ∧ McAt T l w1 j acc wr

set_option maxRecDepth 100000 in
set_option maxHeartbeats 8000000 in
theorem makeContI_any (l : List BlkD) (v : Value) (base : Nat) (w : World) (hown : ownB w base v l) (hok : McOk l) :
    Calls Tryz.prog 113  #[v] w (Same (.tuple #[.string (bs (numbT 0 l)), .bool true]) w) := by
  have cZ := fun wx hx => sizeI_any l v base wx hx hok.acc
  have hrd := RdB.of_own hown
  have hsum := hok.sum
  have hl40 := hok.acc.1
  have HOK := Lib.hid hok
  have HRD := Lib.hid hrd
  have hlow := fun (wq : World) (hu : Up w wq) => ownsRow_up hown hu
  obtain ⟨T, HT⟩ : ∃ T, Hid (numbT 0 l = T) := ⟨_, rfl⟩
  rw [HT.out]
  obtain ⟨a, cap, rfl, hnc, hcm, -⟩ := hrd
  unfold maxLen at hcm
  clear hok hown
  go_enter Tryz.func113, Tryz.ntmps113
  go_wp2_with ((go_at_call 116; (with_reducible refine (cZ _ (hlow _ (by (repeat (first | with_reducible exact Up.refl _ | with_reducible assumption | with_reducible refine Up.set ?_ (by first | exact Nat.le_refl _ | (simp only []; omega) | (simp; omega)) _ | with_reducible refine Up.alloc ?_ _ | with_reducible refine Up.drew ?_ | refine Up.trans ?_ (by with_reducible assumption)))))).mono ?_); rintro e w1 ⟨rfl, U1⟩; have B1 := bcell U1; have Z1 := U1.size; (try simp at Z1); (try rw [Nat.add_one_le_iff] at Z1)))
  have HW1 := Lib.hid (HRD.out.low (show Below w.heap.size w w1 by (repeat (first | with_reducible exact Up.refl _ | with_reducible assumption | with_reducible refine Up.set ?_ (by first | exact Nat.le_refl _ | (simp only []; omega) | (simp; omega)) _ | with_reducible refine Up.alloc ?_ _ | with_reducible refine Up.drew ?_ | refine Up.trans ?_ (by with_reducible assumption)))))
  have hUw : Up w w1 := by (repeat (first | with_reducible exact Up.refl _ | with_reducible assumption | with_reducible refine Up.set ?_ (by first | exact Nat.le_refl _ | (simp only []; omega) | (simp; omega)) _ | with_reducible refine Up.alloc ?_ _ | with_reducible refine Up.drew ?_ | refine Up.trans ?_ (by with_reducible assumption)))
  have HUW := Lib.hid hUw
  clear hUw hlow U1 B1 Z1
  go_loopw [19] (fun i wr => RelMc T l w1 i wr) (fun i _ => l.length - (intOf i).toNat)
  case atStart => exact ⟨0, [], rfl, ⟨Nat.zero_le _, by rw [List.drop_zero, List.nil_append]; exact HT.out, by simp, isSb_new w1, (Up.refl _).alloc _⟩⟩
  case round =>
    obtain ⟨j, acc, rfl, hM⟩ := hrel
    have HM := Lib.hid hM
    have hj := hM.le
    have hal := hM.al
    have hsbl := hM.sb.lt
    clear hM
    by_cases hlt : j < l.length
    · obtain ⟨a9, cap9, e9, -, -, hc9⟩ := HW1.out.low HM.out.up
      cases e9
      obtain ⟨g, rfl, hg, hcell⟩ := hc9 (by omega)
      obtain ⟨c0, c1, c2, c3⟩ := hcell j hlt
      have hfj := HOK.out.form j hlt
      obtain ⟨hb1, hb2, hb3⟩ := HOK.out.acc.2 _ (List.getElem_mem hlt)
      have HTT : Hid (acc ++ (textB j (l[j]).raw (l[j]).size (l[j]).body).data.toList ++ numbT (j + 1) (l.drop (j + 1)) = T) := by
        have := HM.out.tot
        rw [List.drop_eq_getElem_cons hlt] at this
        rw [List.append_assoc]
        exact this
      have hts := textB_sz j (l[j]).raw (l[j]).size (l[j]).body
      have cF := fun wx => fmtI_any j (l[j]).raw (l[j]).size (l[j]).body wx (by omega)
      unfold fmtB at cF
      rw [hfj] at cF
      simp only [if_true] at cF
      clear hcell hfj
      generalize textB j (l[j]).raw (l[j]).size (l[j]).body = tx at *
      generalize hbj : l[j] = bj at *
      obtain ⟨bn, br, bz, bb⟩ := bj
      simp only at c0 c1 c2 c3 cF hb1 hb2 hb3 hts HTT
      have htz : tx.size ≤ 74 := by omega
      clear hbj hts
      have cW := fun wx hx hb => sbWrite_any w1.heap.size w1.heap.size (Lib.byteCells acc) tx wx hx (by rw [Lib.byteCells_length]; omega) hb
      go_wp2_with ((go_at_call 48; (with_reducible refine (cF _).mono ?_); rintro e w5 ⟨rfl, U5⟩; have B5 := bcell U5; have Z5 := U5.size; (try simp at Z5); (try rw [Nat.add_one_le_iff] at Z5)))
      have hU5 : Up wr w5 := by (repeat (first | with_reducible exact Up.refl _ | with_reducible assumption | with_reducible refine Up.set ?_ (by first | exact Nat.le_refl _ | (simp only []; omega) | (simp; omega)) _ | with_reducible refine Up.alloc ?_ _ | with_reducible refine Up.drew ?_ | refine Up.trans ?_ (by with_reducible assumption)))
      (with_reducible refine (cW _ (HM.out.sb.up hU5) (by have := HM.out.up.size; have := hU5.size; omega)).mono ?_)
      rintro e w6 ⟨rfl, h6, hb6⟩
      have hU6 : Up w1 w6 := Below.trans (HM.out.up.trans hU5) hb6
      have HS6 : Hid (IsSb w1.heap.size w1.heap.size (Lib.byteCells (acc ++ tx.data.toList)) w6) := by
        have h7 := h6
        rw [show Lib.strCells tx = Lib.byteCells tx.data.toList from rfl, byteCells_app] at h7
        exact .inr h7
      clear h6 hb6
      go_wp2
      go_roundw
      case rel => exact ⟨j + 1, acc ++ tx.data.toList, by go_num, ⟨by omega, HTT.out, by rw [List.length_append]; have := ba_len tx; omega, HS6.out, hU6⟩⟩
      case measure => simp [intOf]; omega
    · have e : j = l.length := by omega
      have HE : Hid (acc = T) := by
        have := HM.out.tot
        rw [e, List.drop_length] at this
        have h9 : acc = T := by simpa [numbT] using this
        exact h9
      have cS := fun wx hx hb => sbString_any w1.heap.size w1.heap.size acc wx hx hb
      go_wp2_with fail
      (with_reducible refine (cS _ HM.out.sb HM.out.up.size).mono ?_)
      rintro e w7 ⟨rfl, hb7⟩
      have hU7 : Up w w7 := HUW.out.trans (Below.trans HM.out.up hb7)
      go_wp2
      refine bodyPost_ret (v := .tuple #[.string (bs acc), .bool true]) (by simp [results, Tryz.results113, go_sem]; try rfl) rfl ⟨by rw [HE.out], hU7⟩

/-- The numbered texts of the blocks of data are the reference's container. -/
theorem numbT_blks {s : SetD} {dict : List UInt8} (h : fitsB s dict = true) (size : Nat) : ∀ (n i : Nat) (d : List UInt8), numbT i (blksN (learnK (startK s) dict) size n d) = makeN s dict size n i d
  | 0, _, _ => rfl
  | n + 1, i, d => by
    by_cases hd : d = []
    · subst hd; rw [blksN_nil, makeN_nil]; rfl
    · rw [blksN_step hd, makeN_step hd, numbT, numbT_blks h size n (i + 1), blockD_mk h, bs_data]
      rfl
theorem blksN_ok (k : KnD) {size : Nat} (h1 : 1 ≤ size) (h2 : size ≤ 64) : ∀ (n : Nat) (d : List UInt8), d.length ≤ n → (∀ b ∈ blksN k size n d, 1 ≤ b.size ∧ b.size ≤ 64 ∧ b.body.size ≤ 64 ∧ (b.raw = true → (b.body.size : Int) = b.size) ∧ (b.raw = false → 1 ≤ b.body.size → (b.body.size : Int) < b.size)) ∧ sizeSum (blksN k size n d) = d.length ∧ (blksN k size n d).length * size < d.length + size
  | 0, d, hd => by
    have : d = [] := List.length_eq_zero_iff.1 (by omega)
    subst this
    exact ⟨by simp [blksN], rfl, by simp [blksN]; omega⟩
  | n + 1, d, hd => by
    by_cases he : d = []
    · subst he; rw [blksN_nil]; exact ⟨by simp, rfl, by simp; omega⟩
    · have hp := List.length_pos_iff.2 he
      obtain ⟨i1, i2, i3⟩ := blksN_ok k h1 h2 n (d.drop size) (by rw [List.length_drop]; omega)
      rw [blksN_step he]
      obtain ⟨m1, m2, m3⟩ := mkB_bd (compO k (d.take size)) (bs (d.take size))
      have htl : (bs (d.take size)).size = min size d.length := by rw [bs_size, List.length_take]
      refine ⟨fun b hb => ?_, ?_, ?_⟩
      · rcases List.mem_cons.1 hb with rfl | hb
        · refine ⟨by omega, by omega, by omega, ?_, ?_⟩
          · unfold mkB
            split
            · split
              · intro h; cases h
              · intro _; rfl
            · intro _; rfl
          · unfold mkB
            split
            · split
              · intro _ _; rw [bs_size]; show (_ : Int) < ((bs (d.take size)).size : Int); omega
              · intro h; cases h
            · intro h; cases h
        · exact i1 b hb
      · have : sizeSum (mkB (compO k (d.take size)) (bs (d.take size)) :: blksN k size n (d.drop size)) = (mkB (compO k (d.take size)) (bs (d.take size))).size + sizeSum (blksN k size n (d.drop size)) := by simp [sizeSum]
        rw [this, i2, m2, htl, List.length_drop]; omega
      · rw [List.length_cons, Nat.succ_mul]
        rw [List.length_drop] at i3
        by_cases hs : size ≤ d.length
        · omega
        · have h0 : (blksN k size n (d.drop size)).length = 0 := by
            rw [List.drop_of_length_le (by omega), blksN_nil]; rfl
          rw [h0]; omega

theorem compL_pos {k : KnD} {d : List UInt8} (h : k.Ok) (hl : ∀ b ∈ d, b.toNat < k.c) (hd : d.length ≤ 2000) : 1 ≤ (compL k d).length := by
  obtain ⟨g1, g2, g3, g4, g5⟩ := walk_greedy h hl hd
  unfold compL
  rw [packL_length]
  have hg : greedy k d = (k.c : Int) :: greedyN d.length k.cleared d := rfl
  generalize (walkN k (greedy k d) [] []).ws = ws at *
  cases ws with
  | nil => rw [hg] at g1; simp at g1
  | cons w ws =>
    have hw := g4 w (List.mem_cons_self ..)
    rw [hg]
    simp only [packC, List.length_append, codeL_length]
    omega
theorem mkB_pos {k : KnD} (h : k.Ok) {x : List UInt8} (hx : 1 ≤ x.length) : 1 ≤ (mkB (compO k x) (bs x)).body.size := by
  unfold mkB compO
  split
  · next c hc =>
    split at hc
    · next hf =>
      cases hc
      obtain ⟨e1, e2, e3⟩ := fitsB_lits hf
      split
      · show 1 ≤ (bs (compL k x)).size
        rw [bs_size]
        exact compL_pos h e3 e2
      · show 1 ≤ (bs x).size
        rw [bs_size]; exact hx
    · cases hc
  · show 1 ≤ (bs x).size
    rw [bs_size]; exact hx
theorem blksN_pos {k : KnD} (h : k.Ok) {size : Nat} (h1 : 1 ≤ size) : ∀ (n : Nat) (d : List UInt8), ∀ b ∈ blksN k size n d, 1 ≤ b.body.size
  | 0, d, b, hb => by simp [blksN] at hb
  | n + 1, d, b, hb => by
    by_cases he : d = []
    · subst he; rw [blksN_nil] at hb; simp at hb
    · rw [blksN_step he] at hb
      rcases List.mem_cons.1 hb with rfl | hb
      · refine mkB_pos h ?_
        have := List.length_pos_iff.2 he
        rw [List.length_take]; omega
      · exact blksN_pos h h1 n _ b hb
theorem blks_mc {k : KnD} (h : k.Ok) {size : Nat} (h1 : 1 ≤ size) (h2 : size ≤ 64) {L : List UInt8} (hL : L.length ≤ 2000) (h40 : L.length ≤ 40 * size) : McOk (blksN k size L.length L) := by
  obtain ⟨i1, i2, i3⟩ := blksN_ok k h1 h2 L.length L (Nat.le_refl _)
  have hp := blksN_pos h h1 L.length L
  have hlen : (blksN k size L.length L).length ≤ 40 := by
    have h41 : (blksN k size L.length L).length * size < 41 * size := by omega
    have := Nat.lt_of_mul_lt_mul_right h41
    omega
  refine ⟨⟨hlen, fun b hb => ⟨(i1 b hb).1, (i1 b hb).2.1, (i1 b hb).2.2.1⟩⟩, by omega, fun i hi => ?_⟩
  have hb := List.getElem_mem hi
  obtain ⟨a1, a2, a3, a4, a5⟩ := i1 _ hb
  have a6 := hp _ hb
  generalize (blksN k size L.length L)[i] = B at *
  obtain ⟨bn, br, bz, bb⟩ := B
  simp only at a1 a2 a3 a4 a5 a6 ⊢
  unfold formB
  rw [Bool.and_eq_true, Bool.and_eq_true]
  refine ⟨⟨inB_iff.2 ⟨by omega, by omega⟩, inB_iff.2 ⟨a1, a2⟩⟩, ?_⟩
  cases br
  · simp only [Bool.false_eq_true, if_false]
    have := a5 rfl a6
    exact inB_iff.2 ⟨by omega, by omega⟩
  · simp only [if_true]
    simpa using a4 rfl

set_option maxRecDepth 100000 in
set_option maxHeartbeats 4000000 in
theorem makeContainerI_any (s : SetD) (dict d : ByteArray) (size : Int) (w : World) (hli : -9223372036854775808 ≤ s.lit ∧ s.lit ≤ 9223372036854775807) (hi : dict.size ≤ 1073741824) (hd : d.size ≤ 1073741824) (hz : -9223372036854775808 ≤ size ∧ size ≤ 9223372036854775807) :
    Calls Tryz.prog 52  #[setV s, .string dict, .string d, .int .i64 size] w (Same (optS (mkO s dict.data.toList d.data.toList size)) w) := by
  have cS := fun wx => startWI_any s dict wx hli hi
  have cZ := fun wx => sizeVI_any size wx
  have hdl := ba_len d
  cases h1 : fitsB s dict.data.toList
  · rw [mkO_none (by unfold mkOk; rw [h1]; rfl), optS_none]
    rw [h1] at cS
    simp only [Bool.false_eq_true, if_false] at cS
    clear h1 hdl
    simp only [setV] at *
    go_enter Tryz.func52, Tryz.ntmps52
    go_wp2_with ((go_at_call 64; (with_reducible refine (cS _).mono ?_); rintro e w1 ⟨rfl, U1⟩; have B1 := bcell U1; have Z1 := U1.size; (try simp at Z1); (try rw [Nat.add_one_le_iff] at Z1)))
    go_ret2
    refine ⟨rfl, ?_⟩
    (repeat (first | with_reducible exact Up.refl _ | with_reducible assumption | with_reducible refine Up.set ?_ (by first | exact Nat.le_refl _ | (simp only []; omega) | (simp; omega)) _ | with_reducible refine Up.alloc ?_ _ | with_reducible refine Up.drew ?_ | refine Up.trans ?_ (by with_reducible assumption)))
  · rw [h1] at cS
    simp only [if_true] at cS
    cases h2 : inB size 1 64
    · rw [mkO_none (by unfold mkOk; rw [h1, h2]; rfl), optS_none]
      rw [h2] at cZ
      clear h1 h2 hdl
      simp only [setV, kV] at *
      go_enter Tryz.func52, Tryz.ntmps52
      go_wp2_with (first | (go_at_call 64; (with_reducible refine (cS _).mono ?_); rintro e w1 ⟨v1, rfl, ho1, U1⟩; obtain ⟨a1, c1, rfl⟩ := ownsRow_shape ho1; clear ho1) | (go_at_call 107; (with_reducible refine (cZ _).mono ?_); rintro e w' ⟨rfl, rfl⟩))
      go_ret2
      refine ⟨rfl, ?_⟩
      (repeat (first | with_reducible exact Up.refl _ | with_reducible assumption | with_reducible refine Up.set ?_ (by first | exact Nat.le_refl _ | (simp only []; omega) | (simp; omega)) _ | with_reducible refine Up.alloc ?_ _ | with_reducible refine Up.drew ?_ | refine Up.trans ?_ (by with_reducible assumption)))
    · obtain ⟨b1, b2⟩ := inB_iff.1 h2
      rw [h2] at cZ
      by_cases h4 : d.size ≤ 2000
      · have h4' : ¬ (2000 : Int) < (d.size : Int) := by omega
        by_cases h3 : (d.size : Int) ≤ size * 40
        · obtain ⟨z, rfl⟩ := Int.eq_ofNat_of_zero_le (by omega : 0 ≤ size)
          have h3' : ¬ (40 * (z : Int)) < (d.size : Int) := by omega
          have HE : Hid (optS (mkO s dict.data.toList d.data.toList (z : Int)) = .tuple #[.string (bs (numbT 0 (blksN (learnK (startK s) dict.data.toList) z d.size d.data.toList))), .bool true]) := by
            unfold Hid mkO mkOk
            rw [h1, h2, hdl, decide_eq_true h3, decide_eq_true h4, numbT_blks h1]; rfl
          rw [HE.out]
          obtain ⟨f1, f2, f3⟩ := fitsB_lits h1
          have hok : (learnK (startK s) dict.data.toList).Ok := learnK_ok (startK_ok f1) f3
          have cM := fun wx v hr => makeBlocksI_any (learnK (startK s) dict.data.toList) v 0 d.data.toList z wx hok (fun _ => rfl) hr (by omega) (by omega) (by omega)
          have hmc := blks_mc hok (size := z) (by omega) (by omega) (L := d.data.toList) (by omega) (by omega)
          rw [bs_self, hdl] at cM
          rw [hdl] at hmc
          clear h1 h2 HE f1 f2 f3 hok hdl
          generalize learnK (startK s) dict.data.toList = kk at *
          generalize blksN kk z d.size d.data.toList = bl at *
          have cC := fun wx v hx => makeContI_any bl v 0 wx hx hmc
          simp only [setV, kV] at *
          go_enter Tryz.func52, Tryz.ntmps52
          go_wp2_with (first | (go_at_call 64; (with_reducible refine (cS _).mono ?_); rintro e w1 ⟨v1, rfl, ho1, U1⟩; have HR1 := Lib.hid ((RdP.of_own ho1).low (Nat.zero_le _)); obtain ⟨a1, c1, rfl⟩ := ownsRow_shape ho1; clear ho1) | (go_at_call 107; (with_reducible refine (cZ _).mono ?_); rintro e w' ⟨rfl, rfl⟩) | (go_at_call 114; (with_reducible refine (cM _ _ (HR1.out.up (by (repeat (first | with_reducible exact Up.refl _ | with_reducible assumption | with_reducible refine Up.set ?_ (by first | exact Nat.le_refl _ | (simp only []; omega) | (simp; omega)) _ | with_reducible refine Up.alloc ?_ _ | with_reducible refine Up.drew ?_ | refine Up.trans ?_ (by with_reducible assumption)))))).mono ?_); rintro e w2 ⟨vb, rfl, hob, U2⟩; have HOB := Lib.hid (ownsRow_base hob (Nat.zero_le _)); clear hob) | (go_at_call 113; (with_reducible refine (cC _ _ HOB.out).mono ?_); rintro e w3 ⟨rfl, U3⟩))
          go_ret2
          refine ⟨rfl, ?_⟩
          (repeat (first | with_reducible exact Up.refl _ | with_reducible assumption | with_reducible refine Up.set ?_ (by first | exact Nat.le_refl _ | (simp only []; omega) | (simp; omega)) _ | with_reducible refine Up.alloc ?_ _ | with_reducible refine Up.drew ?_ | refine Up.trans ?_ (by with_reducible assumption)))
        · rw [mkO_none (by unfold mkOk; rw [h1, h2, hdl, decide_eq_false h3, Bool.false_and]; rfl), optS_none]
          have h3' : 40 * size < (d.size : Int) := by omega
          clear h1 h2 hdl h3
          simp only [setV, kV] at *
          go_enter Tryz.func52, Tryz.ntmps52
          go_wp2_with (first | (go_at_call 64; (with_reducible refine (cS _).mono ?_); rintro e w1 ⟨v1, rfl, ho1, U1⟩; obtain ⟨a1, c1, rfl⟩ := ownsRow_shape ho1; clear ho1) | (go_at_call 107; (with_reducible refine (cZ _).mono ?_); rintro e w' ⟨rfl, rfl⟩))
          go_ret2
          refine ⟨rfl, ?_⟩
          (repeat (first | with_reducible exact Up.refl _ | with_reducible assumption | with_reducible refine Up.set ?_ (by first | exact Nat.le_refl _ | (simp only []; omega) | (simp; omega)) _ | with_reducible refine Up.alloc ?_ _ | with_reducible refine Up.drew ?_ | refine Up.trans ?_ (by with_reducible assumption)))
      · rw [mkO_none (by unfold mkOk; rw [h1, h2, hdl, decide_eq_false h4, Bool.and_false]; rfl), optS_none]
        have h4' : (2000 : Int) < (d.size : Int) := by omega
        clear h1 h2 hdl h4
        simp only [setV, kV] at *
        go_enter Tryz.func52, Tryz.ntmps52
        go_wp2_with (first | (go_at_call 64; (with_reducible refine (cS _).mono ?_); rintro e w1 ⟨v1, rfl, ho1, U1⟩; obtain ⟨a1, c1, rfl⟩ := ownsRow_shape ho1; clear ho1) | (go_at_call 107; (with_reducible refine (cZ _).mono ?_); rintro e w' ⟨rfl, rfl⟩))
        go_ret2
        refine ⟨rfl, ?_⟩
        (repeat (first | with_reducible exact Up.refl _ | with_reducible assumption | with_reducible refine Up.set ?_ (by first | exact Nat.le_refl _ | (simp only []; omega) | (simp; omega)) _ | with_reducible refine Up.alloc ?_ _ | with_reducible refine Up.drew ?_ | refine Up.trans ?_ (by with_reducible assumption)))

end Go.Proofs.YtekbbnkkninolaaGreat

/- Walks of the reference's l1Unpack and UnpackCodes. Conditions: what is known is valid and can be read; the string's length is bounded. -/
namespace Go.Proofs.YtekbbnkkninolaaGreat
set_option linter.unusedVariables false
set_option linter.unusedSimpArgs false
open Go Go.RowKit

/-- What reading the codes of a stream gives. -/
structure UnR where
  codes : List Int
  fin : Int
  used : Nat
/-- The memory of UnpackCodes. -/
structure UnB (lo : Nat) (w : World) (k : KnD) (v : Value) (cs : List Int) (vc : Value) (wr : World) : Prop where
  kn : KnAt w.heap.size k v wr
  pr : RdP lo w v k.ps ∨ ownPr wr (w.heap.size + 1) v k.ps
  own : ownI wr (w.heap.size + 1) vc cs
  up : Up w wr
theorem UnB.upd {lo : Nat} {w : World} {k : KnD} {v : Value} {cs : List Int} {vc : Value} {wr w' : World} (h : UnB lo w k v cs vc wr) (hu : Up wr w') : UnB lo w k v cs vc w' :=
  ⟨h.kn.up hu, h.pr.imp id fun h => ownsRow_up h hu, ownsRow_up h.own hu, h.up.trans hu⟩
theorem UnB.stored {lo : Nat} {w : World} {k k' : KnD} {v v' : Value} {cs : List Int} {vc : Value} {wr : World} (h : UnB lo w k v cs vc wr) (hp : ownPr wr (w.heap.size + 1) v' k'.ps) : UnB lo w k' v' cs vc (KnW wr w.heap.size k' v') :=
  ⟨KnAt.store h.kn k' v', .inr (KnW.own hp (low_ne (w := w) hp (by omega)) k' v'), KnW.own h.own (low_ne (w := w) h.own (by omega)) k' v', KnW.up h.up (Nat.le_refl _) k' v'⟩
/-- Its plain state. -/
structure UnD (T : RdR) (o : Int) (bits : List UInt8) (k0 : KnD) (m : Nat) (k : KnD) (p : Nat) (cs : List Int) (d : List UInt8) : Prop where
  inv : RdInv bits 0 k0 k p cs d
  tot : readN o bits 0 0 m k p cs d = T
  len : bits.length ≤ p + m
  cl : cs.length < 3100
end Go.Proofs.YtekbbnkkninolaaGreat

/- Walks of the reference's Decompress, DecompressWith, l5Data, BlockData. Conditions: what is known is valid and can be read; strings are no longer than 2^30 bytes. -/
namespace Go.Proofs.YtekbbnkkninolaaGreat
set_option linter.unusedVariables false
set_option linter.unusedSimpArgs false
open Go Go.RowKit

theorem RdI.low {lo lo' : Nat} {w : World} {v : Value} {l : List Int} (h : RdI lo w v l) (hl : lo' ≤ lo) : RdI lo' w v l := by
  obtain ⟨a, cap, h1, h2, h3, h4⟩ := h
  exact ⟨a, cap, h1, h2, h3, fun hp => by
    obtain ⟨b, off, e1, e2, e3⟩ := h4 hp
    exact ⟨b, off, e1, Nat.le_trans hl e2, e3⟩⟩
/-- The data of a block. -/
def dataO (s : SetD) (dict : List UInt8) (b : BlkD) : Option (List UInt8) := if b.raw then some b.body.data.toList else
  if (decW s dict b.body.data.toList).fin = 0 ∧ (decW s dict b.body.data.toList).used = b.body.size ∧ ((decW s dict b.body.data.toList).data.length : Int) = b.size then some (decW s dict b.body.data.toList).data else none
end Go.Proofs.YtekbbnkkninolaaGreat

/- Walks of the reference's l5All, ContainerData and ReadRange. Conditions: the strings are no longer than 2^30 bytes. -/
namespace Go.Proofs.YtekbbnkkninolaaGreat
set_option linter.unusedVariables false
set_option linter.unusedSimpArgs false
open Go Go.RowKit

/-- The data of blocks, one behind the other. -/
def allF (f : BlkD → Option (List UInt8)) : List BlkD → Option (List UInt8)
  | [] => some []
  | b :: l => match f b with
    | none => none
    | some x => (allF f l).map (x ++ ·)
def addO (acc : List UInt8) (o : Option (List UInt8)) : Option (List UInt8) := o.map (acc ++ ·)
theorem dataO_bd {s : SetD} {dict : List UInt8} {b : BlkD} {x : List UInt8} (h : dataO s dict b = some x) (h1 : b.size ≤ 64) (h2 : b.body.size ≤ 64) : x.length ≤ 64 := by
  unfold dataO at h
  split at h
  · cases h
    have := ba_len b.body; omega
  · split at h
    · next h3 =>
      cases h
      have := h3.2.2; omega
    · cases h
theorem addO_step {f : BlkD → Option (List UInt8)} {l : List BlkD} {j : Nat} (hlt : j < l.length) {acc x : List UInt8} (h : f l[j] = some x) : addO acc (allF f (l.drop j)) = addO (acc ++ x) (allF f (l.drop (j + 1))) := by
  rw [List.drop_eq_getElem_cons hlt, allF, h]
  unfold addO
  cases allF f (l.drop (j + 1)) <;> simp
theorem addO_fail {f : BlkD → Option (List UInt8)} {l : List BlkD} {j : Nat} (hlt : j < l.length) {acc : List UInt8} (h : f l[j] = none) : addO acc (allF f (l.drop j)) = none := by
  rw [List.drop_eq_getElem_cons hlt, allF, h]; rfl
theorem addO_end {f : BlkD → Option (List UInt8)} {l : List BlkD} {j : Nat} (h : l.length ≤ j) (acc : List UInt8) : addO acc (allF f (l.drop j)) = some acc := by
  rw [List.drop_of_length_le h]; simp [allF, addO]
theorem addO_nil (o : Option (List UInt8)) : addO [] o = o := by cases o <;> simp [addO]
structure DaAt (T : Option (List UInt8)) (s : SetD) (dict : List UInt8) (l : List BlkD) (w : World) (j : Nat) (acc : List UInt8) (wr : World) : Prop where
  le : j ≤ l.length
  tot : addO acc (allF (dataO s dict) (l.drop j)) = T
  al : acc.length ≤ 64 * j
  set : SetAt w.heap.size s.ord s.lit s.most wr
  up : Up w wr
def conO (s : SetD) (dict : List UInt8) (st : ByteArray) : Option (List UInt8) := if fitsB s dict then (contBlocks st).bind (allF (dataO s dict)) else none
end Go.Proofs.YtekbbnkkninolaaGreat

/- Plain: a block is parsed from its bytes, whatever is before and behind them, and not without the last one. Conditions: the block's parts fit together. -/
namespace Go.Proofs.YtekbbnkkninolaaGreat
set_option linter.unusedVariables false
set_option linter.unusedSimpArgs false
open Go.RowKit

theorem byteAt_mid (A T C : ByteArray) (i : Nat) (h : i < T.size) : byteAt (A ++ T ++ C) (A.size + i) = byteAt T i := by
  have hA : A.data.toList.length = A.size := by simp
  have hT : T.data.toList.length = T.size := by simp
  unfold byteAt
  rw [ba_append, ba_append, List.append_assoc, List.getD_eq_getElem?_getD, List.getD_eq_getElem?_getD, List.getElem?_append_right (by omega), hA, show A.size + i - A.size = i by omega, List.getElem?_append_left (by omega)]
theorem numAt_mid (A T C : ByteArray) (i : Nat) (h : i + 1 < T.size) : numAt (A ++ T ++ C) (A.size + i) = numAt T i := by
  unfold numAt
  rw [byteAt_mid A T C i (by omega), show A.size + i + 1 = A.size + (i + 1) by omega, byteAt_mid A T C (i + 1) h]
theorem ext_mid (A T C : ByteArray) (i j : Nat) (hij : i ≤ j) (hj : j ≤ T.size) : (A ++ T ++ C).extract (A.size + i) (A.size + j) = T.extract i j := by
  have hA : A.data.toList.length = A.size := by simp
  have hT : T.data.toList.length = T.size := by simp
  apply ba_ext
  rw [Lib.extract_data, Lib.extract_data, ba_append, ba_append, List.append_assoc, List.drop_append, List.drop_of_length_le (by omega), List.nil_append, hA, show A.size + i - A.size = i by omega, List.drop_append_of_le_length (by omega), List.take_append_of_le_length (by rw [List.length_drop]; omega), show A.size + j - (A.size + i) = j - i by omega]
theorem size3 (A T C : ByteArray) : (A ++ T ++ C).size = A.size + T.size + C.size := by rw [ByteArray.size_append, ByteArray.size_append]

def u8of (n : Int) : UInt8 := UInt8.ofNat n.toNat
theorem u8of_nat {n : Int} (h0 : 0 ≤ n) (h1 : n ≤ 255) : ((u8of n).toNat : Int) = n := by unfold u8of; rw [UInt8.toNat_ofNat']; omega
theorem text_list (n : Int) (r : Bool) (s : Int) (b : ByteArray) : (textB n r s b).data.toList = [u8of 181, u8of (kindB r), u8of (n / 256), u8of (n % 256), u8of (s / 256), u8of (s % 256), u8of ((b.size : Int) / 256), u8of ((b.size : Int) % 256)] ++ (b.data.toList ++ [u8of (sumOf (inner n r s b) / 256), u8of (sumOf (inner n r s b) % 256)]) := by
  unfold textB
  rw [ba_append, ba_append, ba_nums, two, ba_nums]
  conv => lhs; arg 1; arg 2; unfold inner
  simp only [ba_append, two, ba_nums]
  simp [u8of]
theorem text_size (n : Int) (r : Bool) (s : Int) (b : ByteArray) : (textB n r s b).size = b.size + 10 := by
  have h := congrArg List.length (text_list n r s b)
  have hT : (textB n r s b).data.toList.length = (textB n r s b).size := by simp
  have hb : b.data.toList.length = b.size := by simp
  rw [hT, List.length_append, List.length_append, hb] at h
  simp at h
  omega
/-- What the bytes of a block are. -/
structure TextOf (n : Int) (r : Bool) (s : Int) (b T : ByteArray) : Prop where
  size : T.size = b.size + 10
  b0 : byteAt T 0 = 181
  b1 : byteAt T 1 = kindB r
  n2 : numAt T 2 = n
  n4 : numAt T 4 = s
  n6 : numAt T 6 = b.size
  body : T.extract 8 (8 + b.size) = b
  inn : T.extract 1 (8 + b.size) = inner n r s b
  sum : numAt T (8 + b.size) = sumOf (inner n r s b)
theorem textOf {n : Int} {r : Bool} {s : Int} {b : ByteArray} (h1 : 0 ≤ n ∧ n ≤ 39) (h2 : 1 ≤ s ∧ s ≤ 64) (h3 : b.size ≤ 64) : TextOf n r s b (textB n r s b) := by
  have hl := text_list n r s b
  have hs := text_size n r s b
  have hsb := sumOf_bd (inner n r s b)
  have hbl : b.data.toList.length = b.size := by simp
  have hk : 0 ≤ kindB r ∧ kindB r ≤ 255 := by unfold kindB; split <;> omega
  have hlow : ∀ i (x : Int), 0 ≤ x → x ≤ 255 → ([u8of 181, u8of (kindB r), u8of (n / 256), u8of (n % 256), u8of (s / 256), u8of (s % 256), u8of ((b.size : Int) / 256), u8of ((b.size : Int) % 256)] : List UInt8)[i]? = some (u8of x) → byteAt (textB n r s b) i = x := fun i x x0 x1 hi => by
    unfold byteAt
    rw [hl, List.getD_eq_getElem?_getD, List.getElem?_append_left (List.getElem?_eq_some_iff.1 hi).1, hi]
    exact u8of_nat x0 x1
  have hhigh : ∀ i (x : Int), 0 ≤ x → x ≤ 255 → ([u8of (sumOf (inner n r s b) / 256), u8of (sumOf (inner n r s b) % 256)] : List UInt8)[i]? = some (u8of x) → byteAt (textB n r s b) (8 + b.size + i) = x := fun i x x0 x1 hi => by
    unfold byteAt
    rw [hl, List.getD_eq_getElem?_getD, List.getElem?_append_right (by simp; omega), List.getElem?_append_right (by simp; omega)]
    rw [show 8 + b.size + i - ([u8of 181, u8of (kindB r), u8of (n / 256), u8of (n % 256), u8of (s / 256), u8of (s % 256), u8of ((b.size : Int) / 256), u8of ((b.size : Int) % 256)] : List UInt8).length - b.data.toList.length = i by rw [hbl]; simp; omega, hi]
    exact u8of_nat x0 x1
  have hbody : (textB n r s b).extract 8 (8 + b.size) = b := by
    apply ba_ext
    rw [Lib.extract_data, hl, show 8 + b.size - 8 = b.size by omega]
    rw [List.drop_append_of_le_length (by simp), List.drop_of_length_le (by simp), List.nil_append, List.take_append_of_le_length (by omega), ← hbl, List.take_length]
  refine ⟨hs, hlow 0 181 (by omega) (by omega) rfl, hlow 1 _ hk.1 hk.2 rfl, ?_, ?_, ?_, hbody, ?_, ?_⟩
  · unfold numAt; rw [hlow 2 (n / 256) (by omega) (by omega) rfl, hlow 3 (n % 256) (by omega) (by omega) rfl]; omega
  · unfold numAt; rw [hlow 4 (s / 256) (by omega) (by omega) rfl, hlow 5 (s % 256) (by omega) (by omega) rfl]; omega
  · unfold numAt; rw [hlow 6 ((b.size : Int) / 256) (by omega) (by omega) rfl, hlow 7 ((b.size : Int) % 256) (by omega) (by omega) rfl]; omega
  · have e : inner n r s b = strOfNums [kindB r] ++ two n ++ two s ++ two b.size ++ b := rfl
    apply ba_ext
    rw [Lib.extract_data, hl, show 8 + b.size - 1 = b.size + 7 by omega]
    conv => rhs; rw [e]
    simp only [ba_append, two, ba_nums]
    simp only [List.cons_append, List.nil_append, List.drop_succ_cons, List.drop_zero, List.map_cons, List.map_nil, List.append_assoc]
    rw [show b.size + 7 = b.size + 1 + 1 + 1 + 1 + 1 + 1 + 1 by omega]
    simp only [List.take_succ_cons]
    rw [List.take_append_of_le_length (by omega), ← hbl, List.take_length]
    rfl
  · unfold numAt
    have g1 := hhigh 0 (sumOf (inner n r s b) / 256) (by omega) (by omega) rfl
    have g2 := hhigh 1 (sumOf (inner n r s b) % 256) (by omega) (by omega) rfl
    rw [Nat.add_zero] at g1
    rw [g1, g2]
    omega

theorem parse_text {n : Int} {r : Bool} {s : Int} {b : ByteArray} (h : formB n r s b = true) (A C : ByteArray) :
    parseV (A ++ textB n r s b ++ C) (A.size : Nat) = .tuple #[.agg #[.int .i64 n, .bool r, .int .i64 s, .string b], .int .i64 (A.size + (textB n r s b).size : Nat), .bool true] := by
  obtain ⟨h1, h2, h3⟩ := formB_bd h
  have t := textOf (r := r) h1 h2 h3
  generalize textB n r s b = T at *
  have hz := t.size
  have hsz := size3 A T C
  have e0 : byteAt (A ++ T ++ C) A.size = 181 := by have := byteAt_mid A T C 0 (by omega); rw [Nat.add_zero] at this; rw [this, t.b0]
  have e1 : byteAt (A ++ T ++ C) (A.size + 1) = kindB r := by rw [byteAt_mid A T C 1 (by omega), t.b1]
  have e2 : numAt (A ++ T ++ C) (A.size + 2) = n := by rw [numAt_mid A T C 2 (by omega), t.n2]
  have e4 : numAt (A ++ T ++ C) (A.size + 4) = s := by rw [numAt_mid A T C 4 (by omega), t.n4]
  have e6 : numAt (A ++ T ++ C) (A.size + 6) = b.size := by rw [numAt_mid A T C 6 (by omega), t.n6]
  have ee : endAt (A ++ T ++ C) A.size = A.size + (8 + b.size) := by unfold endAt; rw [e6]; omega
  have eb : bodyAt (A ++ T ++ C) A.size = b := by
    unfold bodyAt; rw [e6, show A.size + 8 + ((b.size : Nat) : Int).toNat = A.size + (8 + b.size) by omega, ext_mid A T C 8 (8 + b.size) (by omega) (by omega), t.body]
  have ei : (A ++ T ++ C).extract (A.size + 1) (endAt (A ++ T ++ C) A.size) = inner n r s b := by rw [ee, ext_mid A T C 1 (8 + b.size) (by omega) (by omega), t.inn]
  have es : numAt (A ++ T ++ C) (endAt (A ++ T ++ C) A.size) = sumOf (inner n r s b) := by rw [ee, numAt_mid A T C (8 + b.size) (by omega), t.sum]
  have ek : (kindB r == 0) = r := by cases r <;> rfl
  have hk1 : kindB r ≤ 1 := by cases r <;> decide
  have hp : parseOk (A ++ T ++ C) A.size = true := by
    unfold parseOk headOk
    rw [e0, e1, e2, e4, eb, ei, es, ek, h, ee]
    simp only [Bool.and_eq_true, decide_eq_true_eq, beq_iff_eq]
    refine ⟨⟨⟨⟨⟨by omega, trivial⟩, hk1⟩, by omega⟩, trivial⟩, trivial⟩
  rw [parseV_yes hp]
  unfold parsed
  rw [e1, e2, e4, eb, ek, ee]
  have : A.size + (8 + b.size) + 2 = A.size + T.size := by omega
  rw [this]
end Go.Proofs.YtekbbnkkninolaaGreat

/- Walks of the program's unpack, Decompress, DecompressWith, blockData, BlockData. Conditions: what is known is valid and can be read; strings are no longer than 2^30 bytes. -/
namespace Go.Proofs.YtekbbnkkninolaaGreat
set_option linter.unusedVariables false
set_option linter.unusedSimpArgs false
open Go Go.RowKit

/-- What unpack reads, and how many bytes it uses. -/
def upkR (k : KnD) (s : List UInt8) : RdR := if s.length ≤ 4000 then readS k s else ⟨⟨⟨0, 0, 0⟩, [], 0, 0⟩, [], [], 4, 0⟩
def upkU (k : KnD) (s : List UInt8) : Nat := if s.length ≤ 4000 then usedS s (readS k s) else 0
def UpkPost (R : RdR) (used : Nat) (w : World) (e : Ending) (w' : World) : Prop := ∃ a n c vc vd, e = .returned (.tuple #[rgV R.k (.slice a n c) vc vd R.fin R.pos, .int .i64 used]) ∧ ownI w' w.heap.size vc R.codes ∧ ownU w' w.heap.size vd R.data ∧ Up w w'
/-- A reading with rows of its own. -/
def RdO (base : Nat) (R : RdR) (u : Value) (w : World) : Prop := ∃ v vc vd, u = rgV R.k v vc vd R.fin R.pos ∧ ownPr w base v R.k.ps ∧ ownI w base vc R.codes ∧ ownU w base vd R.data
theorem rdO_closed (base : Nat) (R : RdR) : ∀ u, UpClosed (RdO base R u) := fun u w w' ⟨v, vc, vd, h1, h0, h2, h3⟩ hu => ⟨v, vc, vd, h1, ownsRow_up h0 hu, ownsRow_up h2 hu, ownsRow_up h3 hu⟩
theorem upOut_rd {f : FuncId} {args : Array Value} {w : World} {R : RdR} {base : Nat} (h : Calls Tryz.prog f args w (RcPost R w)) (hb : base ≤ w.heap.size) : upOut Tryz.prog (RdO base R) w (.ok (.enter f args) w) :=
  ⟨rfl, h.mono fun e w' ⟨v, vc, vd, he, hp, ho, hd, hu⟩ => ⟨_, he, hu, v, vc, vd, rfl, ownsRow_base hp hb, ownsRow_base ho hb, ownsRow_base hd hb⟩⟩
/-- A new box for a reading. -/
def RgO (base : Nat) (u : Value) (w : World) : Prop := ∃ b, u = .pointer (some ⟨b, 0, none⟩) ∧ base ≤ b ∧ RgAt b ⟨⟨0, 0, 0⟩, [], 0, 0⟩ (.slice none 0 0) (.slice none 0 0) (.slice none 0 0) 0 0 w
theorem rgO_closed (base : Nat) : ∀ u, UpClosed (RgO base u) := fun u w w' ⟨b, h1, h2, h3⟩ hu => ⟨b, h1, h2, box_up hu h3⟩

set_option maxRecDepth 100000 in
set_option maxHeartbeats 8000000 in
theorem upkI_any (k : KnD) (v : Value) (lo : Nat) (s : ByteArray) (w : World) (h : k.Ok) (hv : k.last = -1 → k.base = k.ps.length) (hr : RdP lo w v k.ps) (hs : s.size ≤ 1073741824) :
    Calls Tryz.prog 134  #[kV k v, .string s] w (UpkPost (upkR k s.data.toList) (upkU k s.data.toList) w) := by
  have cV := fun wx hr => kvI_any k v lo wx h hv hr
  have hrt := fun (wq : World) (hu : Up w wq) => hr.up hu
  have hlen := ba_len s
  unfold upkR upkU
  by_cases h4 : s.size ≤ 4000
  case neg =>
    rw [if_neg (by omega), if_neg (by omega)]
    obtain ⟨a, cap, rfl, -, -, -, -⟩ := hr
    have h4' : (4000 : Int) < (s.size : Int) := by omega
    have h4d : decide ((4000 : Int) < (s.size : Int)) = true := decide_eq_true h4'
    clear h hv hlen
    simp only [kV] at *
    go_enter Tryz.func134, Tryz.ntmps134
    go_wp2_with fail
    (with_reducible refine (cV _ (hrt _ (by (repeat (first | with_reducible exact Up.refl _ | with_reducible assumption | with_reducible refine Up.set ?_ (by first | exact Nat.le_refl _ | (simp only []; omega) | (simp; omega)) _ | with_reducible refine Up.alloc ?_ _ | with_reducible refine Up.drew ?_ | refine Up.trans ?_ (by with_reducible assumption)))))).mono ?_); rintro e w1 ⟨rfl, U1⟩
    have hQ1 : RgAt (w.heap.size + 1) ⟨⟨0, 0, 0⟩, [], 0, 0⟩ (.slice none 0 0) (.slice none 0 0) (.slice none 0 0) 0 0 w1 := box_up U1 (alloc2 w _ _)
    have hU1 : Up w w1 := by (repeat (first | with_reducible exact Up.refl _ | with_reducible assumption | with_reducible refine Up.set ?_ (by first | exact Nat.le_refl _ | (simp only []; omega) | (simp; omega)) _ | with_reducible refine Up.alloc ?_ _ | with_reducible refine Up.drew ?_ | refine Up.trans ?_ (by with_reducible assumption)))
    have HQ := Lib.hid hQ1
    have HU := Lib.hid (RgW.up hU1 (show w.heap.size ≤ w.heap.size + 1 by omega) ⟨⟨0, 0, 0⟩, [], 0, 0⟩ (.slice none 0 0) (.slice none 0 0) (.slice none 0 0) 4 0)
    have HS := Lib.hid (RgAt.store hQ1 ⟨⟨0, 0, 0⟩, [], 0, 0⟩ (.slice none 0 0) (.slice none 0 0) (.slice none 0 0) 4 0)
    obtain ⟨hbq, q0, q1, q2, q3, q4, q5, q6, q7, q8, q9⟩ := RgAt.cells (k := ⟨⟨0, 0, 0⟩, [], 0, 0⟩) hQ1
    (try dsimp only at q0 q1 q2 q3 q4 q5)
    have hfq := box_free hQ1
    clear hQ1 hU1 U1
    go_wp2
    rw [show (World.setCell (World.setCell (World.setCell (World.setCell (World.setCell (World.setCell (World.setCell (World.setCell (World.setCell (World.setCell w1 ⟨w.heap.size + 1, 0, none⟩ (.int .i64 0)) ⟨w.heap.size + 1, 1, none⟩ (.int .i64 0)) ⟨w.heap.size + 1, 2, none⟩ (.int .i64 0)) ⟨w.heap.size + 1, 3, none⟩ (.slice none 0 0)) ⟨w.heap.size + 1, 4, none⟩ (.int .i64 0)) ⟨w.heap.size + 1, 5, none⟩ (.int .i64 0)) ⟨w.heap.size + 1, 6, none⟩ (.slice none 0 0)) ⟨w.heap.size + 1, 7, none⟩ (.slice none 0 0)) ⟨w.heap.size + 1, 8, none⟩ (.int .i64 4)) ⟨w.heap.size + 1, 9, none⟩ (.int .i64 0)) = RgW w1 (w.heap.size + 1) ⟨⟨0, 0, 0⟩, [], 0, 0⟩ (.slice none 0 0) (.slice none 0 0) (.slice none 0 0) 4 0 from rfl]
    obtain ⟨hbq, q0, q1, q2, q3, q4, q5, q6, q7, q8, q9⟩ := RgAt.cells (k := ⟨⟨0, 0, 0⟩, [], 0, 0⟩) HS.out
    (try dsimp only at q0 q1 q2 q3 q4 q5)
    refine bodyPost_ret (v := .tuple #[rgV ⟨⟨0, 0, 0⟩, [], 0, 0⟩ (.slice none 0 0) (.slice none 0 0) (.slice none 0 0) 4 0, .int .i64 0]) ?_ rfl ⟨_, _, _, _, _, rfl, World.ownsRow_nil _ _ _ _, World.ownsRow_nil _ _ _ _, ?_⟩
    · simp [results, Tryz.results134, go_sem, q0, q1, q2, q3, q4, q5, q6, q7, q8, q9]
    · exact HU.out
  case pos =>
    rw [if_pos (by omega), if_pos (by omega)]
    have ho := (setOk_bd h.set).1
    have cU := fun wx => unpackBI_any k.set.ord s wx ho h4
    have hul := unpackL_length k.set.ord s.data.toList
    have cR : ∀ wx, RdP lo wx v k.ps → Calls Tryz.prog 164  #[kV k v, .string (bs (unpackL k.set.ord s.data.toList)), .int .i64 0, .int .i64 0] wx (RcPost (readN k.set.ord (unpackL k.set.ord s.data.toList) 0 0 (unpackL k.set.ord s.data.toList).length k 0 [] []) wx) := fun wx hr => readI_any k v lo (unpackL k.set.ord s.data.toList) 0 0 wx h hr (isBits_unpack _ _) (by omega) (by omega) (by omega)
    rw [hul] at cR
    have hfin := readS_fin h s.data.toList
    have hpos := hfin.pos
    rw [hul] at hpos
    have hp2 : (readS k s.data.toList).pos ≤ 32000 := by omega
    have hF := hfin.fin
    have HE : Hid (readN k.set.ord (unpackL k.set.ord s.data.toList) 0 0 (8 * s.data.toList.length) k 0 [] [] = readS k s.data.toList) := rfl
    rw [HE.out] at cR
    obtain ⟨uu, HUU⟩ : ∃ uu, Hid (usedS s.data.toList (readS k s.data.toList) = uu) := ⟨_, rfl⟩
    rw [HUU.out]
    unfold usedS at HUU
    clear hfin HE hul hpos
    generalize readS k s.data.toList = R at *
    generalize unpackL k.set.ord s.data.toList = bits at *
    obtain ⟨kR, codes, dat, fin, pos⟩ := R
    simp only at hp2 hF cR HUU ⊢
    obtain ⟨a, cap, rfl, -, -, -, -⟩ := hr
    clear h hv ho
    simp only [kV] at *
    go_enter Tryz.func134, Tryz.ntmps134
    go_wp2_with ((go_at_call 150; (with_reducible refine (cV _ (hrt _ (by (repeat (first | with_reducible exact Up.refl _ | with_reducible assumption | with_reducible refine Up.set ?_ (by first | exact Nat.le_refl _ | (simp only []; omega) | (simp; omega)) _ | with_reducible refine Up.alloc ?_ _ | with_reducible refine Up.drew ?_ | refine Up.trans ?_ (by with_reducible assumption)))))).mono ?_); rintro e w1 ⟨rfl, U1⟩; have B1 := bcell U1; have Z1 := U1.size; (try simp at Z1); (try rw [Nat.add_one_le_iff] at Z1)))
    have hK1 : KnAt w.heap.size k (.slice a k.ps.length cap) w1 := box_up U1 (box_up ((Up.refl _).alloc _) (MapKept.heap_alloc w _).1)
    have hQ1 : RgAt (w.heap.size + 1) ⟨⟨0, 0, 0⟩, [], 0, 0⟩ (.slice none 0 0) (.slice none 0 0) (.slice none 0 0) 0 0 w1 := box_up U1 (alloc2 w _ _)
    have hU1 : Up w w1 := by (repeat (first | with_reducible exact Up.refl _ | with_reducible assumption | with_reducible refine Up.set ?_ (by first | exact Nat.le_refl _ | (simp only []; omega) | (simp; omega)) _ | with_reducible refine Up.alloc ?_ _ | with_reducible refine Up.drew ?_ | refine Up.trans ?_ (by with_reducible assumption)))
    have hs1 := U1.size
    simp at hs1
    have HK := Lib.hid hK1
    have HQ := Lib.hid hQ1
    have HU := Lib.hid hU1
    clear hK1 hQ1 hU1 U1 B1 Z1
    refine wp_region_upf 8 (by kernel_rfl) (by kernel_rfl) ?_
    simp only [List.take, List.drop]
    repeat (refine wpUp_step (fun K hK => ?_); go_simp; (try simp only [↓IntWalk.iteOmega]); first
      | (refine hK _ _ ?_; clear hK K)
      | (apply stepU_c
         · intro wq hwq; (have hbq := bcell hwq; (repeat (first | refine fills_no (by rfl) ?_ | refine fills_yes (by rfl) (fun vq hvq => ?_))); simp only [List.filter_nil, fills]; unfold upAt; (try ((obtain ⟨hbk, s0, s1, s2, s3, s4, s5⟩ := (HK.out.up hwq).cells))); go_simp; (try go_bits); (try simp only [↓IntWalk.iteOmega]); (try (rw [dif_pos (by omega)]; go_simp; try go_bits)); first | exact upOut_value | (apply upOut_call; (go_at_call 165; exact cU _)) | (apply upOut_eq; (go_at_call 165; exact cU _)))
         go_simp; refine hK _ _ ?_; clear hK K)
      | (refine stepU_m (by kernel_rfl) ((RdO w1.heap.size ⟨kR, codes, dat, fin, pos⟩)) (rdO_closed _ _) (fun wq hwq => ?_) ?_
         · (have hbq := bcell hwq; (repeat (first | refine fills_no (by rfl) ?_ | refine fills_yes (by rfl) (fun vq hvq => ?_))); simp only [List.filter_nil, fills]; unfold upAt; (try ((obtain ⟨hbk, s0, s1, s2, s3, s4, s5⟩ := (HK.out.up hwq).cells))); go_simp; (try go_bits); (try simp only [↓IntWalk.iteOmega]); (try (rw [dif_pos (by omega)]; go_simp; try go_bits)); ((with_reducible refine upOut_rd (base := w1.heap.size) ?_ hwq.size); go_at_call 164; exact cR _ (hrt _ (HU.out.trans hwq))))
         refine hK _ _ ?_; clear hK K)
      | (refine stepU_m (by kernel_rfl) ((RgO w1.heap.size)) (rgO_closed _) (fun wq hwq => ?_) ?_
         · (have hbq := bcell hwq; (repeat (first | refine fills_no (by rfl) ?_ | refine fills_yes (by rfl) (fun vq hvq => ?_))); simp only [List.filter_nil, fills]; unfold upAt; (try ((obtain ⟨hbk, s0, s1, s2, s3, s4, s5⟩ := (HK.out.up hwq).cells))); go_simp; (try go_bits); (try simp only [↓IntWalk.iteOmega]); (try (rw [dif_pos (by omega)]; go_simp; try go_bits)); (exact ⟨(Up.refl _).alloc _, _, rfl, hwq.size, (MapKept.heap_alloc _ _).1⟩))
         refine hK _ _ ?_; clear hK K))
    refine wpUp_nil (fun wq hwq => ?_)
    simp only [fills]
    rintro u1 ⟨b, rfl, hbb, hbx⟩ u2 ⟨vp, vc, vd, rfl, hvp, hvc, hvd⟩
    obtain ⟨ap, cp, rfl⟩ := ownsRow_shape hvp
    obtain ⟨ac, cc, rfl⟩ := ownsRow_shape hvc
    obtain ⟨ad, cd, rfl⟩ := ownsRow_shape hvd
    obtain ⟨hbr, r0, r1, r2, r3, r4, r5, r6, r7, r8, r9⟩ := RgAt.cells (k := ⟨⟨0, 0, 0⟩, [], 0, 0⟩) hbx
    (try dsimp only at r0 r1 r2 r3 r4 r5)
    have hfb := box_free hbx
    have hB5 := RgAt.store hbx kR (.slice ap kR.ps.length cp) (.slice ac codes.length cc) (.slice ad dat.length cd) fin pos
    have hQ5 := (RgW.other (w := wq) (b := b) (show w.heap.size + 1 ≠ b by omega) kR (.slice ap kR.ps.length cp) (.slice ac codes.length cc) (.slice ad dat.length cd) fin pos).trans (box_up hwq HQ.out)
    have hC5 := RgW.own hvc (box_ne hbx hvc (by decide)) kR (.slice ap kR.ps.length cp) (.slice ac codes.length cc) (.slice ad dat.length cd) fin pos
    have hD5 := RgW.own hvd (box_ne hbx hvd (by decide)) kR (.slice ap kR.ps.length cp) (.slice ac codes.length cc) (.slice ad dat.length cd) fin pos
    have hU5 := RgW.up (HU.out.trans hwq) (show w.heap.size ≤ b by have := HU.out.size; omega) kR (.slice ap kR.ps.length cp) (.slice ac codes.length cc) (.slice ad dat.length cd) fin pos
    have HB5 := Lib.hid hB5
    have HC5 := Lib.hid hC5
    have HD5 := Lib.hid hD5
    have HU5 := Lib.hid hU5
    have HQ5 : Hid (RgAt (w.heap.size + 1) ⟨⟨0, 0, 0⟩, [], 0, 0⟩ (.slice none 0 0) (.slice none 0 0) (.slice none 0 0) 0 0 (RgW wq b kR (.slice ap kR.ps.length cp) (.slice ac codes.length cc) (.slice ad dat.length cd) fin pos)) := hQ5
    clear hB5 hC5 hD5 hU5 hQ5 hvp hvc hvd hbx HK HQ HU cU cR hrt cV
    go_wp2
    rw [onlyN_normal]
    rw [show (World.setCell (World.setCell (World.setCell (World.setCell (World.setCell (World.setCell (World.setCell (World.setCell (World.setCell (World.setCell wq ⟨b, 0, none⟩ (.int .i64 kR.set.ord)) ⟨b, 1, none⟩ (.int .i64 kR.set.lit)) ⟨b, 2, none⟩ (.int .i64 kR.set.most)) ⟨b, 3, none⟩ (.slice ap kR.ps.length cp)) ⟨b, 4, none⟩ (.int .i64 kR.base)) ⟨b, 5, none⟩ (.int .i64 kR.last)) ⟨b, 6, none⟩ (.slice ac codes.length cc)) ⟨b, 7, none⟩ (.slice ad dat.length cd)) ⟨b, 8, none⟩ (.int .i64 fin)) ⟨b, 9, none⟩ (.int .i64 pos)) = RgW wq b kR (.slice ap kR.ps.length cp) (.slice ac codes.length cc) (.slice ad dat.length cd) fin pos from rfl]
    generalize RgW wq b kR (.slice ap kR.ps.length cp) (.slice ac codes.length cc) (.slice ad dat.length cd) fin pos = W5 at *
    clear r0 r1 r2 r3 r4 r5 r6 r7 r8 r9 hfb hwq
    obtain ⟨hbr, r0, r1, r2, r3, r4, r5, r6, r7, r8, r9⟩ := HB5.out.cells
    obtain ⟨hbq, q0, q1, q2, q3, q4, q5, q6, q7, q8, q9⟩ := RgAt.cells (k := ⟨⟨0, 0, 0⟩, [], 0, 0⟩) HQ5.out
    (try dsimp only at q0 q1 q2 q3 q4 q5)
    have hfq := box_free HQ5.out
    have HQS := Lib.hid (RgAt.store HQ5.out kR (.slice ap kR.ps.length cp) (.slice ac codes.length cc) (.slice ad dat.length cd) fin pos)
    have HCS := Lib.hid (ownsRow_base (RgW.own HC5.out (low_ne (w := w) HC5.out (show w.heap.size + 1 < w1.heap.size by omega)) kR (.slice ap kR.ps.length cp) (.slice ac codes.length cc) (.slice ad dat.length cd) fin pos) (show w.heap.size ≤ w1.heap.size by omega))
    have HDS := Lib.hid (ownsRow_base (RgW.own HD5.out (low_ne (w := w) HD5.out (show w.heap.size + 1 < w1.heap.size by omega)) kR (.slice ap kR.ps.length cp) (.slice ac codes.length cc) (.slice ad dat.length cd) fin pos) (show w.heap.size ≤ w1.heap.size by omega))
    have HUS := Lib.hid (RgW.up HU5.out (show w.heap.size ≤ w.heap.size + 1 by omega) kR (.slice ap kR.ps.length cp) (.slice ac codes.length cc) (.slice ad dat.length cd) fin pos)
    by_cases hf1 : fin = 1
    · have hne : (fin == 1) = true := by simpa using hf1
      have HU9 : Hid ((uu : Int) = (s.size : Int)) := by unfold Hid; rw [← HUU.out, if_pos hf1, hlen]
      clear hf1
      go_wp2
      rw [show (World.setCell (World.setCell (World.setCell (World.setCell (World.setCell (World.setCell (World.setCell (World.setCell (World.setCell (World.setCell W5 ⟨w.heap.size + 1, 0, none⟩ (.int .i64 kR.set.ord)) ⟨w.heap.size + 1, 1, none⟩ (.int .i64 kR.set.lit)) ⟨w.heap.size + 1, 2, none⟩ (.int .i64 kR.set.most)) ⟨w.heap.size + 1, 3, none⟩ (.slice ap kR.ps.length cp)) ⟨w.heap.size + 1, 4, none⟩ (.int .i64 kR.base)) ⟨w.heap.size + 1, 5, none⟩ (.int .i64 kR.last)) ⟨w.heap.size + 1, 6, none⟩ (.slice ac codes.length cc)) ⟨w.heap.size + 1, 7, none⟩ (.slice ad dat.length cd)) ⟨w.heap.size + 1, 8, none⟩ (.int .i64 fin)) ⟨w.heap.size + 1, 9, none⟩ (.int .i64 pos)) = RgW W5 (w.heap.size + 1) kR (.slice ap kR.ps.length cp) (.slice ac codes.length cc) (.slice ad dat.length cd) fin pos from rfl]
      obtain ⟨hbq, q0, q1, q2, q3, q4, q5, q6, q7, q8, q9⟩ := HQS.out.cells
      refine bodyPost_ret (v := .tuple #[rgV kR (.slice ap kR.ps.length cp) (.slice ac codes.length cc) (.slice ad dat.length cd) fin pos, .int .i64 s.size]) ?_ rfl ⟨_, _, _, _, _, by rw [HU9.out], HCS.out, HDS.out, HUS.out⟩
      simp [results, Tryz.results134, go_sem, q0, q1, q2, q3, q4, q5, q6, q7, q8, q9]
    · have hne : (fin == 1) = false := by simpa using hf1
      have HU9 : Hid ((uu : Int) = ((pos : Int) + 7) / 8) := by unfold Hid; rw [← HUU.out, if_neg hf1]; omega
      go_wp2
      refine wp_region_own 7 5 (some (w.heap.size + 1)) (by kernel_rfl) (by kernel_rfl) ?_
      simp only [List.take, List.drop]
      repeat (refine wpG_step (fun K hK => ?_); go_simp; (try simp only [↓IntWalk.iteOmega]); first
        | (refine hK _ _ ?_; clear hK K)
        | (refine stepG_own (by rfl) (by kernel_rfl) ((fun u w' => RgAt (w.heap.size + 1) kR (.slice ap kR.ps.length cp) (.slice ac codes.length cc) (.slice ad dat.length cd) fin pos w')) ((fun v w w' h hu => box_up hu h)) (fun wq hwq => ?_) ?_
           · ((repeat (first | refine fills_no (by rfl) ?_ | refine fills_yes (by rfl) (fun vq hvq => ?_))); simp only [List.filter_nil, fills]; (obtain ⟨hbq, q0, q1, q2, q3, q4, q5, q6, q7, q8, q9⟩ := RgAt.cells (k := ⟨⟨0, 0, 0⟩, [], 0, 0⟩) (box_up hwq HQ5.out); (try dsimp only at q0 q1 q2 q3 q4 q5); have hfq := box_free (box_up hwq HQ5.out); unfold gAt; go_simp; exact ⟨(grownBy_set (grownBy_set (grownBy_set (grownBy_set (grownBy_set (grownBy_set (grownBy_set (grownBy_set (grownBy_set (grownBy_set (grownBy_refl _ _) _ _) _ _) _ _) _ _) _ _) _ _) _ _) _ _) _ _) _ _), RgAt.store (show RgAt (w.heap.size + 1) ⟨⟨0, 0, 0⟩, [], 0, 0⟩ (.slice none 0 0) (.slice none 0 0) (.slice none 0 0) 0 0 wq from box_up hwq HQ5.out) kR (.slice ap kR.ps.length cp) (.slice ac codes.length cc) (.slice ad dat.length cd) fin pos⟩))
           refine hK _ _ ?_; clear hK K)
        | (refine stepG_c (by rfl) ?_ ?_ ?_
           rotate_left
           · intro wq hwq; (have hbq := gcell hwq; (repeat (first | refine fills_no (by rfl) ?_ | refine fills_yes (by rfl) (fun vq hvq => ?_))); simp only [List.filter_nil, fills]; unfold upAt; (try ((obtain ⟨hbr, r0, r1, r2, r3, r4, r5, r6, r7, r8, r9⟩ := RgAt.cells (gbox hwq HB5.out (by simp; omega))))); go_simp; (try go_bits); (try simp only [↓IntWalk.iteOmega]); (try (rw [dif_pos (by omega)]; go_simp; try go_bits)); first | exact upOut_value)
           go_simp; refine hK _ _ ?_; clear hK K))
      refine wpG_nil (by rfl) (fun wq hwq => ?_)
      simp only [fills]
      rintro u hkr
      have HCT := Lib.hid (ownsRow_base (HC5.out.kept hwq (low_ne' (w := w) HC5.out (show w.heap.size + 1 < w1.heap.size by omega))) (show w.heap.size ≤ w1.heap.size by omega))
      have HDT := Lib.hid (ownsRow_base (HD5.out.kept hwq (low_ne' (w := w) HD5.out (show w.heap.size + 1 < w1.heap.size by omega))) (show w.heap.size ≤ w1.heap.size by omega))
      have HUT := Lib.hid (up_grown' HU5.out hwq (show w.heap.size ≤ w.heap.size + 1 by omega))
      obtain ⟨hbq, q0, q1, q2, q3, q4, q5, q6, q7, q8, q9⟩ := RgAt.cells hkr
      clear hwq hkr
      go_wp2
      refine bodyPost_ret (v := .tuple #[rgV kR (.slice ap kR.ps.length cp) (.slice ac codes.length cc) (.slice ad dat.length cd) fin pos, .int .i64 (((pos : Int) + 7) / 8)]) ?_ rfl ⟨_, _, _, _, _, by rw [HU9.out], HCT.out, HDT.out, HUT.out⟩
      simp [results, Tryz.results134, go_sem, q0, q1, q2, q3, q4, q5, q6, q7, q8, q9]

theorem upk_dec {k : KnD} (s : List UInt8) : (upkR k s).data = (decK k s).data ∧ (upkR k s).fin = (decK k s).fin ∧ upkU k s = (decK k s).used := by
  unfold upkR upkU decK
  split <;> exact ⟨rfl, rfl, rfl⟩

set_option maxRecDepth 100000 in
set_option maxHeartbeats 4000000 in
theorem decI_any (k : KnD) (v : Value) (lo : Nat) (s : ByteArray) (w : World) (h : k.Ok) (hv : k.last = -1 → k.base = k.ps.length) (hr : RdP lo w v k.ps) (hs : s.size ≤ 1073741824) :
    Calls Tryz.prog 82  #[kV k v, .string s] w (Same (decV (decK k s.data.toList)) w) := by
  have cU := fun wx hr => upkI_any k v lo s wx h hv hr hs
  have hrt := fun (wq : World) (hu : Up w wq) => hr.up hu
  obtain ⟨u1, u2, u3⟩ := upk_dec (k := k) s.data.toList
  unfold decV
  rw [← u1, ← u2, ← u3]
  unfold UpkPost at cU
  obtain ⟨a, cap, rfl, -, -, -, -⟩ := hr
  clear h hv u1 u2 u3
  generalize upkR k s.data.toList = R at *
  generalize upkU k s.data.toList = uu at *
  obtain ⟨kR, codes, dat, fin, pos⟩ := R
  simp only [kV] at *
  go_enter Tryz.func82, Tryz.ntmps82
  go_wp2_with (go_at_call 134; (with_reducible refine (cU _ (hrt _ (by (repeat (first | with_reducible exact Up.refl _ | with_reducible assumption | with_reducible refine Up.set ?_ (by first | exact Nat.le_refl _ | (simp only []; omega) | (simp; omega)) _ | with_reducible refine Up.alloc ?_ _ | with_reducible refine Up.drew ?_ | refine Up.trans ?_ (by with_reducible assumption)))))).mono ?_); rintro e w1 ⟨ap, np, cp, vc, vd, rfl, hvc, hvd, U1⟩; obtain ⟨ac, cc, rfl⟩ := ownsRow_shape hvc; obtain ⟨ad, cd, rfl⟩ := ownsRow_shape hvd; have HD := Lib.hid hvd; clear hvc hvd)
  refine wp_region_up 9 (by kernel_rfl) (by kernel_rfl) ?_
  simp only [List.take, List.drop]
  repeat (refine wpUp_step (fun K hK => ?_); go_simp; (try simp only [↓IntWalk.iteOmega]); first
    | (refine hK _ _ ?_; clear hK K)
    | (apply stepU_c
       · intro wq hwq; (have hbq := bcell hwq; (repeat (first | refine fills_no (by rfl) ?_ | refine fills_yes (by rfl) (fun vq hvq => ?_))); simp only [List.filter_nil, fills]; unfold upAt; (try ((have hconv := conv_any (ownsRow_up (ownsRow_up HD.out (Up.alloc (Up.refl _) _)) hwq) rfl; obtain ⟨hbr, r0, r1, r2, r3, r4, r5, r6, r7, r8, r9⟩ := RgAt.cells (k := kR) (box_up hwq (MapKept.heap_alloc w1 _).1)))); go_simp; (try go_bits); (try simp only [↓IntWalk.iteOmega]); (try (rw [dif_pos (by omega)]; go_simp; try go_bits)); first | exact upOut_value)
       go_simp; refine hK _ _ ?_; clear hK K))
  refine wpUp_nil (fun wq hwq => ?_)
  simp only [fills]
  have hU := ((U1.alloc _).trans hwq)
  clear hwq U1
  go_wp2
  refine bodyPost_ret (v := .tuple #[.string (bs dat), .int .i64 fin, .int .i64 uu]) (by simp [results, Tryz.results82, go_sem]; try rfl) rfl ⟨rfl, ?_⟩
  (repeat (first | with_reducible exact Up.refl _ | with_reducible assumption | with_reducible refine Up.set ?_ (by first | exact Nat.le_refl _ | (simp only []; omega) | (simp; omega)) _ | with_reducible refine Up.alloc ?_ _ | with_reducible refine Up.drew ?_ | refine Up.trans ?_ (by with_reducible assumption)))

end Go.Proofs.YtekbbnkkninolaaGreat

/- Walks of the program's blockData and BlockData. Conditions: what is known is valid and can be read; strings are no longer than 2^30 bytes. -/
namespace Go.Proofs.YtekbbnkkninolaaGreat
set_option linter.unusedVariables false
set_option linter.unusedSimpArgs false
open Go Go.RowKit

/-- The data of a block, the words of the dictionary being known. -/
def datK (k : KnD) (b : BlkD) : Option (List UInt8) := if b.raw then some b.body.data.toList else
  if (decK k b.body.data.toList).fin = 0 ∧ (decK k b.body.data.toList).used = b.body.size ∧ ((decK k b.body.data.toList).data.length : Int) = b.size then some (decK k b.body.data.toList).data else none
theorem datK_eq {s : SetD} {dict : List UInt8} (h : fitsB s dict = true) (b : BlkD) : dataO s dict b = datK (learnK (startK s) dict) b := by
  unfold dataO datK decW
  rw [if_pos h]

set_option maxRecDepth 100000 in
set_option maxHeartbeats 8000000 in
theorem blockDataI_any (k : KnD) (v : Value) (lo : Nat) (b : BlkD) (w : World) (h : k.Ok) (hv : k.last = -1 → k.base = k.ps.length) (hr : RdP lo w v k.ps) (hs : b.body.size ≤ 1073741824) :
    Calls Tryz.prog 74  #[kV k v, blkV b] w (Same (optS (datK k b)) w) := by
  have cD := fun wx hr => decI_any k v lo b.body wx h hv hr hs
  have hrt := fun (wq : World) (hu : Up w wq) => hr.up hu
  unfold datK
  obtain ⟨num, raw, size, body⟩ := b
  simp only at hs cD ⊢
  cases raw
  · simp only [Bool.false_eq_true, if_false]
    obtain ⟨d1, d2, d3, d4⟩ := decK_bd h body.data.toList
    generalize decK k body.data.toList = R at *
    obtain ⟨dd, ff, uu⟩ := R
    simp only at d1 d2 d3 d4 ⊢
    unfold decV at cD
    simp only at cD
    have hbz := bs_size dd
    have hbl : uu ≤ body.size := by simpa using d4
    obtain ⟨a, cap, rfl, -, -, -, -⟩ := hr
    clear d4 h hv
    simp only [kV, blkV] at *
    by_cases h1 : ff = 0
    · by_cases h2 : uu = body.size
      · by_cases h3 : (dd.length : Int) = size
        · rw [if_pos ⟨h1, h2, h3⟩]
          unfold optS
          simp only [Option.getD_some, Option.isSome_some]
          subst h1; subst h2; subst h3
          go_enter Tryz.func74, Tryz.ntmps74
          go_wp2_with ((go_at_call 82; (with_reducible refine (cD _ (hrt _ (by (repeat (first | with_reducible exact Up.refl _ | with_reducible assumption | with_reducible refine Up.set ?_ (by first | exact Nat.le_refl _ | (simp only []; omega) | (simp; omega)) _ | with_reducible refine Up.alloc ?_ _ | with_reducible refine Up.drew ?_ | refine Up.trans ?_ (by with_reducible assumption)))))).mono ?_); rintro e w1 ⟨rfl, U1⟩; have B1 := bcell U1; have Z1 := U1.size; (try simp at Z1); (try rw [Nat.add_one_le_iff] at Z1)))
          go_ret2
          refine ⟨rfl, ?_⟩
          (repeat (first | with_reducible exact Up.refl _ | with_reducible assumption | with_reducible refine Up.set ?_ (by first | exact Nat.le_refl _ | (simp only []; omega) | (simp; omega)) _ | with_reducible refine Up.alloc ?_ _ | with_reducible refine Up.drew ?_ | refine Up.trans ?_ (by with_reducible assumption)))
        · rw [if_neg (fun h => h3 h.2.2)]
          unfold optS
          simp only [Option.getD_none, Option.isSome_none]
          have hne : ((dd.length : Int) == size) = false := by simpa using h3
          subst h1; subst h2
          clear h3
          go_enter Tryz.func74, Tryz.ntmps74
          go_wp2_with ((go_at_call 82; (with_reducible refine (cD _ (hrt _ (by (repeat (first | with_reducible exact Up.refl _ | with_reducible assumption | with_reducible refine Up.set ?_ (by first | exact Nat.le_refl _ | (simp only []; omega) | (simp; omega)) _ | with_reducible refine Up.alloc ?_ _ | with_reducible refine Up.drew ?_ | refine Up.trans ?_ (by with_reducible assumption)))))).mono ?_); rintro e w1 ⟨rfl, U1⟩; have B1 := bcell U1; have Z1 := U1.size; (try simp at Z1); (try rw [Nat.add_one_le_iff] at Z1)))
          go_ret2
          refine ⟨rfl, ?_⟩
          (repeat (first | with_reducible exact Up.refl _ | with_reducible assumption | with_reducible refine Up.set ?_ (by first | exact Nat.le_refl _ | (simp only []; omega) | (simp; omega)) _ | with_reducible refine Up.alloc ?_ _ | with_reducible refine Up.drew ?_ | refine Up.trans ?_ (by with_reducible assumption)))
      · rw [if_neg (fun h => h2 h.2.1)]
        unfold optS
        simp only [Option.getD_none, Option.isSome_none]
        have hne : ((uu : Int) == (body.size : Int)) = false := by simp; omega
        subst h1
        clear h2
        go_enter Tryz.func74, Tryz.ntmps74
        go_wp2_with ((go_at_call 82; (with_reducible refine (cD _ (hrt _ (by (repeat (first | with_reducible exact Up.refl _ | with_reducible assumption | with_reducible refine Up.set ?_ (by first | exact Nat.le_refl _ | (simp only []; omega) | (simp; omega)) _ | with_reducible refine Up.alloc ?_ _ | with_reducible refine Up.drew ?_ | refine Up.trans ?_ (by with_reducible assumption)))))).mono ?_); rintro e w1 ⟨rfl, U1⟩; have B1 := bcell U1; have Z1 := U1.size; (try simp at Z1); (try rw [Nat.add_one_le_iff] at Z1)))
        go_ret2
        refine ⟨rfl, ?_⟩
        (repeat (first | with_reducible exact Up.refl _ | with_reducible assumption | with_reducible refine Up.set ?_ (by first | exact Nat.le_refl _ | (simp only []; omega) | (simp; omega)) _ | with_reducible refine Up.alloc ?_ _ | with_reducible refine Up.drew ?_ | refine Up.trans ?_ (by with_reducible assumption)))
    · rw [if_neg (fun h => h1 h.1)]
      unfold optS
      simp only [Option.getD_none, Option.isSome_none]
      go_enter Tryz.func74, Tryz.ntmps74
      go_wp2_with ((go_at_call 82; (with_reducible refine (cD _ (hrt _ (by (repeat (first | with_reducible exact Up.refl _ | with_reducible assumption | with_reducible refine Up.set ?_ (by first | exact Nat.le_refl _ | (simp only []; omega) | (simp; omega)) _ | with_reducible refine Up.alloc ?_ _ | with_reducible refine Up.drew ?_ | refine Up.trans ?_ (by with_reducible assumption)))))).mono ?_); rintro e w1 ⟨rfl, U1⟩; have B1 := bcell U1; have Z1 := U1.size; (try simp at Z1); (try rw [Nat.add_one_le_iff] at Z1)))
      go_ret2
      refine ⟨rfl, ?_⟩
      (repeat (first | with_reducible exact Up.refl _ | with_reducible assumption | with_reducible refine Up.set ?_ (by first | exact Nat.le_refl _ | (simp only []; omega) | (simp; omega)) _ | with_reducible refine Up.alloc ?_ _ | with_reducible refine Up.drew ?_ | refine Up.trans ?_ (by with_reducible assumption)))
  · simp only [if_true]
    unfold optS
    simp only [Option.getD_some, Option.isSome_some, bs_self]
    obtain ⟨a, cap, rfl, -, -, -, -⟩ := hr
    clear cD h hv
    simp only [kV, blkV] at *
    go_enter Tryz.func74, Tryz.ntmps74
    go_wp2
    go_ret2
    refine ⟨rfl, ?_⟩
    (repeat (first | with_reducible exact Up.refl _ | with_reducible assumption | with_reducible refine Up.set ?_ (by first | exact Nat.le_refl _ | (simp only []; omega) | (simp; omega)) _ | with_reducible refine Up.alloc ?_ _ | with_reducible refine Up.drew ?_ | refine Up.trans ?_ (by with_reducible assumption)))

end Go.Proofs.YtekbbnkkninolaaGreat

/- Plain: the blocks of a container that was made, and of its first bytes. Conditions: as each says. -/
namespace Go.Proofs.YtekbbnkkninolaaGreat
set_option linter.unusedVariables false
set_option linter.unusedSimpArgs false
open Go Go.RowKit

theorem parse_inv {s : ByteArray} {k : Nat} {n z e : Int} {r : Bool} {b : ByteArray} (h : parseV s (k : Int) = .tuple #[.agg #[.int .i64 n, .bool r, .int .i64 z, .string b], .int .i64 e, .bool true]) : parseOk s k = true ∧ blkAt s k = ⟨n, r, z, b⟩ ∧ ((endAt s k + 2 : Nat) : Int) = e := by
  cases hp : parseOk s k
  · rw [parseV_not hp] at h; unfold noBlock at h; simp at h
  · rw [parseV_yes hp] at h
    unfold parsed at h
    simp only [Value.tuple.injEq, Array.mk.injEq, List.cons.injEq, Value.agg.injEq, Value.int.injEq, Value.bool.injEq, Value.string.injEq, and_true, true_and] at h
    obtain ⟨⟨h1, h2, h3, h4⟩, h5⟩ := h
    refine ⟨rfl, ?_, h5⟩
    unfold blkAt; rw [h1, h2, h3, h4]
/-- Blocks with new numbers. -/
def renum (i : Nat) : List BlkD → List BlkD
  | [] => []
  | b :: l => ⟨i, b.raw, b.size, b.body⟩ :: renum (i + 1) l
theorem renum_length : ∀ (l : List BlkD) (i : Nat), (renum i l).length = l.length
  | [], _ => rfl
  | b :: l, i => by rw [renum, List.length_cons, List.length_cons, renum_length l]
theorem renum_sum : ∀ (l : List BlkD) (i : Nat), sizeSum (renum i l) = sizeSum l
  | [], _ => rfl
  | b :: l, i => by
    have := renum_sum l (i + 1)
    unfold sizeSum at *
    rw [renum, List.map_cons, List.map_cons, List.sum_cons, List.sum_cons, this]
theorem renum_take : ∀ (l : List BlkD) (i j : Nat), (renum i l).take j = renum i (l.take j)
  | [], _, _ => by simp [renum]
  | b :: l, i, 0 => by simp [renum]
  | b :: l, i, j + 1 => by rw [renum, List.take_succ_cons, List.take_succ_cons, renum, renum_take l]
theorem ba_assoc (a b c : ByteArray) : a ++ b ++ c = a ++ (b ++ c) := ba_ext (by simp [ba_append])
theorem numbT_cons (i : Nat) (b : BlkD) (l : List BlkD) : bs (numbT i (b :: l)) = textB i b.raw b.size b.body ++ bs (numbT (i + 1) l) := by
  rw [numbT, ← bs_app, bs_self]
theorem goB_text (C : ByteArray) : ∀ (l : List BlkD) (A : ByteArray) (acc : List BlkD), (∀ j (h : j < l.length), formB ((acc.length + j : Nat) : Int) (l[j]).raw (l[j]).size (l[j]).body = true) →
    goBlocks (A ++ bs (numbT acc.length l) ++ C) A.size acc = goBlocks (A ++ bs (numbT acc.length l) ++ C) (A.size + (numbT acc.length l).length) (acc ++ renum acc.length l)
  | [], A, acc, _ => by simp [numbT, renum]
  | b :: l, A, acc, hf => by
    have hb := hf 0 (by simp)
    simp only [Nat.add_zero, List.getElem_cons_zero] at hb
    have hT := text_size acc.length b.raw b.size b.body
    have hp := parse_text hb A (bs (numbT (acc.length + 1) l) ++ C)
    have e2 : A ++ bs (numbT acc.length (b :: l)) ++ C = A ++ textB acc.length b.raw b.size b.body ++ (bs (numbT (acc.length + 1) l) ++ C) := by
      rw [numbT_cons]; simp only [ba_assoc]
    have e3 : A ++ bs (numbT acc.length (b :: l)) ++ C = (A ++ textB acc.length b.raw b.size b.body) ++ bs (numbT (acc.length + 1) l) ++ C := by
      rw [numbT_cons]; simp only [ba_assoc]
    rw [← e2] at hp
    obtain ⟨p1, p2, p3⟩ := parse_inv hp
    have hsz : A.size < (A ++ bs (numbT acc.length (b :: l)) ++ C).size := by
      rw [e2, size3]; omega
    have hnum : numAt (A ++ bs (numbT acc.length (b :: l)) ++ C) (A.size + 2) = acc.length := congrArg BlkD.num p2
    rw [← go_step hsz p1 hnum, p2]
    have hend : endAt (A ++ bs (numbT acc.length (b :: l)) ++ C) A.size + 2 = (A ++ textB acc.length b.raw b.size b.body).size := by
      rw [ByteArray.size_append]; omega
    rw [hend]
    have hl1 : (acc ++ [(⟨acc.length, b.raw, b.size, b.body⟩ : BlkD)]).length = acc.length + 1 := by simp
    have ih := goB_text C l (A ++ textB acc.length b.raw b.size b.body) (acc ++ [⟨acc.length, b.raw, b.size, b.body⟩]) (fun j h => by
      rw [hl1]
      have := hf (j + 1) (by simp; omega)
      rw [List.getElem_cons_succ] at this
      rw [show acc.length + 1 + j = acc.length + (j + 1) by omega]
      exact this)
    rw [hl1, ← e3] at ih
    rw [ih, renum, List.append_assoc]
    have hlen : (numbT acc.length (b :: l)).length = (textB acc.length b.raw b.size b.body).size + (numbT (acc.length + 1) l).length := by
      rw [numbT, List.length_append, ba_len]
    rw [hlen, ByteArray.size_append, Nat.add_assoc]
    rfl
theorem empty_app (X : ByteArray) : ByteArray.empty ++ X ++ ByteArray.empty = X := ba_ext (by simp [ba_append])
theorem empty_app2 (X Y : ByteArray) : ByteArray.empty ++ X ++ Y = X ++ Y := ba_ext (by simp [ba_append])
/-- The blocks of what blocks make. -/
theorem cont_text {l : List BlkD} (h : McOk l) : contBlocks (bs (numbT 0 l)) = some (renum 0 l) := by
  have hg := goB_text ByteArray.empty l ByteArray.empty [] (fun j hj => by
    have := h.form j hj
    rw [show (([] : List BlkD).length + j) = j by simp]
    exact this)
  rw [empty_app] at hg
  have e0 : ByteArray.empty.size = 0 := rfl
  have e9 : ([] : List BlkD).length = 0 := rfl
  rw [e0, e9, Nat.zero_add, List.nil_append] at hg
  unfold contBlocks
  rw [hg, go_end (by rw [bs_size]; simp), Option.bind_some, if_pos (by
    show sizeSum (renum 0 l) ≤ 2000
    rw [renum_sum]; exact h.sum)]
theorem McOk.take {l : List BlkD} (h : McOk l) (j : Nat) : McOk (l.take j) := by
  refine ⟨accOk_take h.acc j, ?_, fun i hi => ?_⟩
  · have h1 : sizeSum (l.take j) ≤ sizeSum l := by
      have h2 := List.take_append_drop j l
      have h3 : sizeSum l = sizeSum (l.take j) + sizeSum (l.drop j) := by
        unfold sizeSum
        rw [← List.sum_append, ← List.map_append, h2]
      have h4 := (sizeSum_bd (l := l.drop j) ⟨by have := h.acc.1; rw [List.length_drop]; omega, fun b hb => h.acc.2 b (List.mem_of_mem_drop hb)⟩).1
      omega
    have := h.sum
    omega
  · have hi' : i < l.length := by rw [List.length_take] at hi; omega
    have := h.form i hi'
    rw [List.getElem_take]
    exact this
theorem numbT_split : ∀ (l : List BlkD) (i j : Nat), numbT i l = numbT i (l.take j) ++ numbT (i + (l.take j).length) (l.drop j)
  | [], i, j => by simp [numbT]
  | b :: l, i, 0 => by simp [numbT]
  | b :: l, i, j + 1 => by
    rw [List.take_succ_cons, List.drop_succ_cons, numbT, numbT, numbT_split l (i + 1) j, List.length_cons, List.append_assoc, show i + 1 + (l.take j).length = i + ((l.take j).length + 1) by omega]
/-- A block without its last bytes is none. -/
theorem parse_cut {n : Int} {r : Bool} {s : Int} {b : ByteArray} (h : formB n r s b = true) (A : ByteArray) (m : Nat) (hm : m < (textB n r s b).size) : parseOk (A ++ (textB n r s b).extract 0 m) A.size = false := by
  obtain ⟨h1, h2, h3⟩ := formB_bd h
  have t := textOf (r := r) h1 h2 h3
  generalize textB n r s b = T at *
  have hz := t.size
  have hx : (T.extract 0 m).size = m := by rw [ByteArray.size_extract]; omega
  have e0 : A ++ T.extract 0 m = A ++ T.extract 0 m ++ ByteArray.empty := ba_ext (by simp [ba_append])
  have hsz : (A ++ T.extract 0 m).size = A.size + m := by rw [ByteArray.size_append, hx]
  by_cases hm10 : m < 10
  · unfold parseOk headOk
    have : decide (A.size + 10 ≤ (A ++ T.extract 0 m).size) = false := by rw [hsz]; simp; omega
    rw [this]
    simp
  · have e6 : numAt (A ++ T.extract 0 m) (A.size + 6) = b.size := by
      rw [e0, numAt_mid A (T.extract 0 m) ByteArray.empty 6 (by omega), numAt_extract T 0 m 6 (by omega) (by omega), Nat.zero_add, t.n6]
    unfold parseOk endAt
    rw [e6, hsz]
    have : decide (A.size + 8 + ((b.size : Nat) : Int).toNat + 2 ≤ A.size + m) = false := by simp; omega
    rw [this]
    simp
/-- Where a number of bytes falls among blocks. -/
theorem cut_at : ∀ (l : List BlkD) (i k : Nat), k ≤ (numbT i l).length → ∃ j, j ≤ l.length ∧ (numbT i (l.take j)).length ≤ k ∧ (k = (numbT i (l.take j)).length ∨ ∃ h : j < l.length, k < (numbT i (l.take j)).length + (textB (i + j : Nat) (l[j]).raw (l[j]).size (l[j]).body).size)
  | [], i, k, h => ⟨0, Nat.le_refl _, by simp [numbT], .inl (by simpa [numbT] using h)⟩
  | b :: l, i, k, h => by
    by_cases hk : k < (textB i b.raw b.size b.body).size
    · exact ⟨0, Nat.zero_le _, by simp [numbT], .inr ⟨by simp, by simpa [numbT] using hk⟩⟩
    · rw [numbT, List.length_append, ba_len] at h
      obtain ⟨j, h1, h2, h3⟩ := cut_at l (i + 1) (k - (textB i b.raw b.size b.body).size) (by omega)
      have hl : (numbT i ((b :: l).take (j + 1))).length = (textB i b.raw b.size b.body).size + (numbT (i + 1) (l.take j)).length := by
        rw [List.take_succ_cons, numbT, List.length_append, ba_len]
      refine ⟨j + 1, by simp; omega, by rw [hl]; omega, ?_⟩
      rw [hl]
      rcases h3 with h3 | ⟨hj, h3⟩
      · exact .inl (by omega)
      · refine .inr ⟨by simp; omega, ?_⟩
        rw [List.getElem_cons_succ]
        rw [show i + 1 + j = i + (j + 1) by omega] at h3
        omega
/-- The first bytes of a container. -/
theorem cont_cut {l : List BlkD} (h : McOk l) {k : Nat} (hk : k ≤ (numbT 0 l).length) : ∃ j, j ≤ l.length ∧ ((k = (numbT 0 (l.take j)).length ∧ contBlocks ((bs (numbT 0 l)).extract 0 k) = some (renum 0 (l.take j))) ∨
    (j < l.length ∧ (numbT 0 (l.take j)).length < k ∧ k < (numbT 0 (l.take (j + 1))).length ∧ contBlocks ((bs (numbT 0 l)).extract 0 k) = none)) := by
  obtain ⟨j, h1, h2, h3⟩ := cut_at l 0 k hk
  refine ⟨j, h1, ?_⟩
  have hsp := numbT_split l 0 j
  have hlj : (l.take j).length = j := by rw [List.length_take]; omega
  rw [hlj, Nat.zero_add] at hsp
  have hx : (bs (numbT 0 l)).extract 0 k = bs (numbT 0 (l.take j)) ++ bs ((numbT j (l.drop j)).take (k - (numbT 0 (l.take j)).length)) := by
    rw [bs_ext, List.drop_zero, Nat.sub_zero, hsp, List.take_append, List.take_of_length_le h2, bs_app]
  by_cases he : k = (numbT 0 (l.take j)).length
  · left
    refine ⟨he, ?_⟩
    rw [hx, he, Nat.sub_self, List.take_zero, bs_app, List.append_nil]
    exact cont_text (h.take j)
  · right
    obtain ⟨hj, h4⟩ : ∃ hj : j < l.length, k < (numbT 0 (l.take j)).length + (textB (0 + j : Nat) (l[j]).raw (l[j]).size (l[j]).body).size := by
      rcases h3 with h3 | h3
      · exact absurd h3 he
      · exact h3
    rw [Nat.zero_add] at h4
    have hstep : (numbT 0 (l.take (j + 1))).length = (numbT 0 (l.take j)).length + (textB j (l[j]).raw (l[j]).size (l[j]).body).size := by
      have h5 := numbT_split (l.take (j + 1)) 0 j
      have e1 : (l.take (j + 1)).take j = l.take j := by rw [List.take_take]; congr 1; omega
      have e2 : (l.take (j + 1)).drop j = [l[j]] := by
        rw [List.take_succ_eq_append_getElem hj, List.drop_append_of_le_length (by rw [hlj]; exact Nat.le_refl _), List.drop_of_length_le (by rw [hlj]; exact Nat.le_refl _)]; rfl
      rw [e1, e2, hlj, Nat.zero_add] at h5
      rw [h5, List.length_append, numbT, numbT, List.append_nil, ba_len]
    refine ⟨hj, by omega, by omega, ?_⟩
    have hform := h.form j hj
    have hm : k - (numbT 0 (l.take j)).length < (textB j (l[j]).raw (l[j]).size (l[j]).body).size := by omega
    have hd : l.drop j = l[j] :: l.drop (j + 1) := List.drop_eq_getElem_cons hj
    have hc : bs ((numbT j (l.drop j)).take (k - (numbT 0 (l.take j)).length)) = (textB j (l[j]).raw (l[j]).size (l[j]).body).extract 0 (k - (numbT 0 (l.take j)).length) := by
      rw [hd, numbT, List.take_append_of_le_length (by rw [ba_len]; omega)]
      apply ba_ext
      rw [bs_data, Lib.extract_data, List.drop_zero, Nat.sub_zero]
    rw [hx, hc]
    have hcut := parse_cut hform (bs (numbT 0 (l.take j))) _ hm
    rw [bs_size] at hcut
    have hg := goB_text ((textB j (l[j]).raw (l[j]).size (l[j]).body).extract 0 (k - (numbT 0 (l.take j)).length)) (l.take j) ByteArray.empty [] (fun q hq => by
      have := (h.take j).form q hq
      rw [show (([] : List BlkD).length + q) = q by simp]
      exact this)
    rw [empty_app2] at hg
    have e0 : ByteArray.empty.size = 0 := rfl
    have e9 : ([] : List BlkD).length = 0 := rfl
    rw [e0, e9, Nat.zero_add, List.nil_append] at hg
    have hfail := go_fail (s := bs (numbT 0 (l.take j)) ++ (textB j (l[j]).raw (l[j]).size (l[j]).body).extract 0 (k - (numbT 0 (l.take j)).length)) (k := (numbT 0 (l.take j)).length) (acc := renum 0 (l.take j)) (by
      rw [ByteArray.size_append, bs_size, ByteArray.size_extract]; omega) (fun h9 => by rw [hcut] at h9; exact absurd h9.1 (by decide))
    unfold contBlocks
    rw [hg, hfail]
    rfl

/-- The data of a block that was made. -/
theorem datK_mk {k : KnD} (h : k.Ok) {x : List UInt8} (hx : x.length ≤ 64) : datK k (mkB (compO k x) (bs x)) = some x := by
  unfold mkB compO
  cases hf : fitsB k.set x
  · simp [datK, bs_data]
  · simp only [if_true]
    obtain ⟨f1, f2, f3⟩ := fitsB_lits hf
    split
    · next hlt =>
      rw [bs_size] at hlt
      unfold datK
      simp only [Bool.false_eq_true, if_false, bs_data, bs_size]
      rw [dec_comp h f3 f2 (by omega)]
      simp
    · simp [datK, bs_data]
theorem blksN_dat {k : KnD} (h : k.Ok) {size : Nat} (h1 : 1 ≤ size) (h2 : size ≤ 64) : ∀ (n : Nat) (d : List UInt8), d.length ≤ n → allF (datK k) (blksN k size n d) = some d
  | 0, d, hd => by
    have : d = [] := List.length_eq_zero_iff.1 (by omega)
    subst this; rfl
  | n + 1, d, hd => by
    by_cases he : d = []
    · subst he; rw [blksN_nil]; rfl
    · rw [blksN_step he, allF, datK_mk h (by rw [List.length_take]; omega)]
      have hp := List.length_pos_iff.2 he
      rw [blksN_dat h h1 h2 n (d.drop size) (by rw [List.length_drop]; omega)]
      simp
end Go.Proofs.YtekbbnkkninolaaGreat

/- Walks of the laws' own functions that copy places that came in. Conditions: they can be read, and are at most 2^20. -/
namespace Go.Proofs.YtekbbnkkninolaaGreat
set_option linter.unusedVariables false
set_option linter.unusedSimpArgs false
open Go.RowKit

/-- A slice of places that can be read. -/
def ArgP (w : World) (v : Value) (ps : List PlaceD) : Prop := ∃ a cap, v = .slice a ps.length cap ∧ ps.length ≤ maxLen ∧ (0 < ps.length → ∃ b off, a = some ⟨b, off, none⟩ ∧ ps.length ≤ cap ∧ cap ≤ maxLen ∧ b < w.heap.size ∧ ∀ i p, ps[i]? = some p → w.cell? ⟨b, off + i * 2, none⟩ = some (.int .i64 p.place) ∧ w.cell? ⟨b, off + i * 2 + 1, none⟩ = some (.int .i64 p.start))
theorem ArgP.up {w w' : World} {v : Value} {ps : List PlaceD} (h : ArgP w v ps) (hu : Up w w') : ArgP w' v ps := by
  obtain ⟨a, cap, h1, h2, h3⟩ := h
  refine ⟨a, cap, h1, h2, fun hp => ?_⟩
  obtain ⟨b, off, e1, e2, e3, e4, e5⟩ := h3 hp
  exact ⟨b, off, e1, e2, e3, Nat.lt_of_lt_of_le e4 hu.size, fun i p hi => ⟨(hu.cell (p := ⟨b, _, none⟩) e4).trans (e5 i p hi).1, (hu.cell (p := ⟨b, _, none⟩) e4).trans (e5 i p hi).2⟩⟩

end Go.Proofs.YtekbbnkkninolaaGreat

/- Plain: a range within the data of a container touches the blocks from that with its first byte to that with its last byte. Conditions: the blocks are those of a container. -/
namespace Go.Proofs.YtekbbnkkninolaaGreat
set_option linter.unusedVariables false
set_option linter.unusedSimpArgs false
open Go.RowKit

theorem sums_lt {l : List BlkD} (hok : accOk l) {i : Nat} (h : i < l.length) : sizeSum (l.take i) < sizeSum (l.take (i + 1)) := by
  have := (hok.2 l[i] (List.getElem_mem h)).1
  rw [sizeSum_take h]; omega
theorem sums_le {l : List BlkD} (hok : accOk l) {i j : Nat} (h : i ≤ j) (hj : j ≤ l.length) : sizeSum (l.take i) ≤ sizeSum (l.take j) := by
  induction j with
  | zero => rw [show i = 0 by omega]; omega
  | succ j ih =>
    rcases Nat.lt_or_ge i (j + 1) with hl | hl
    · have := sums_lt hok (i := j) (by omega)
      have := ih (by omega) (by omega)
      omega
    · rw [show i = j + 1 by omega]; omega
end Go.Proofs.YtekbbnkkninolaaGreat

/- Plain: what is read of a container with places. Conditions: as each says. -/
namespace Go.Proofs.YtekbbnkkninolaaGreat
set_option linter.unusedVariables false
set_option linter.unusedSimpArgs false
open Go Go.RowKit

/-- The data of blocks is as long as they say. -/
def LenOk (f : BlkD → Option (List UInt8)) (l : List BlkD) : Prop := ∀ b ∈ l, ∀ x, f b = some x → (x.length : Int) = b.size
theorem len_dataO {s : SetD} {dict : List UInt8} {b : BlkD} (hf : formB b.num b.raw b.size b.body = true) {x : List UInt8} (h : dataO s dict b = some x) : (x.length : Int) = b.size := by
  unfold dataO at h
  split at h
  · next hr =>
    cases h
    unfold formB at hf
    simp only [Bool.and_eq_true] at hf
    have h2 := hf.2
    rw [if_pos hr] at h2
    rw [ba_len]
    simpa using h2
  · split at h
    · next h3 => cases h; exact h3.2.2
    · cases h
theorem allF_len {f : BlkD → Option (List UInt8)} : ∀ (l : List BlkD) (D : List UInt8), LenOk f l → allF f l = some D → (D.length : Int) = sizeSum l
  | [], D, _, h => by cases h; rfl
  | b :: l, D, hL, h => by
    rw [allF] at h
    cases h1 : f b with
    | none => rw [h1] at h; cases h
    | some x =>
      rw [h1] at h
      cases h2 : allF f l with
      | none => rw [h2] at h; cases h
      | some y =>
        rw [h2] at h; cases h
        have g1 := hL b (List.mem_cons_self ..) x h1
        have g2 := allF_len l y (fun b hb => hL b (List.mem_cons_of_mem _ hb)) h2
        unfold sizeSum at *
        rw [List.map_cons, List.sum_cons, List.length_append]; omega
theorem allF_cut {f : BlkD → Option (List UInt8)} : ∀ (l : List BlkD) (D : List UInt8) (j : Nat), LenOk f l → allF f l = some D → allF f (l.take j) = some (D.take (sizeSum (l.take j)).toNat) ∧ allF f (l.drop j) = some (D.drop (sizeSum (l.take j)).toNat)
  | [], D, j, _, h => by cases h; simp [allF]
  | b :: l, D, 0, _, h => by simp [sizeSum, allF] at h ⊢; exact h
  | b :: l, D, j + 1, hL, h => by
    rw [allF] at h
    cases h1 : f b with
    | none => rw [h1] at h; cases h
    | some x =>
      rw [h1] at h
      cases h2 : allF f l with
      | none => rw [h2] at h; cases h
      | some y =>
        rw [h2] at h; cases h
        have hL' : LenOk f l := fun b hb => hL b (List.mem_cons_of_mem _ hb)
        have g1 := hL b (List.mem_cons_self ..) x h1
        obtain ⟨i1, i2⟩ := allF_cut l y j hL' h2
        have g3 := allF_len (l.take j) _ (fun b hb => hL' b (List.mem_of_mem_take hb)) i1
        have hs : sizeSum (b :: l.take j) = b.size + sizeSum (l.take j) := by simp [sizeSum]
        have hn : (sizeSum (b :: l.take j)).toNat = x.length + (sizeSum (l.take j)).toNat := by rw [hs]; omega
        rw [List.take_succ_cons, List.drop_succ_cons, hn, allF, h1, i1, i2]
        refine ⟨?_, ?_⟩
        · show some (x ++ y.take (sizeSum (l.take j)).toNat) = some ((x ++ y).take (x.length + (sizeSum (l.take j)).toNat))
          rw [List.take_append, List.take_of_length_le (show x.length ≤ x.length + (sizeSum (l.take j)).toNat by omega), Nat.add_sub_cancel_left]
        · rw [List.drop_append]; simp
section
variable {f : BlkD → Option (List UInt8)} {st : ByteArray} {ps : List PlaceD} {to : Int} {n k : Nat} {at' : Int}
end
end Go.Proofs.YtekbbnkkninolaaGreat

/- Plain: a container that was made: how many blocks it has, how long it is, what its first bytes hold. Conditions: as each says. -/
namespace Go.Proofs.YtekbbnkkninolaaGreat
set_option linter.unusedVariables false
set_option linter.unusedSimpArgs false
open Go Go.RowKit

theorem blksN_len (k : KnD) {size : Nat} (h1 : 1 ≤ size) : ∀ (n : Nat) (d : List UInt8), d.length ≤ n → (blksN k size n d).length = (d.length + size - 1) / size
  | 0, d, hd => by
    have : d = [] := List.length_eq_zero_iff.1 (by omega)
    subst this
    rw [blksN_nil]
    simp only [List.length_nil, Nat.zero_add]
    exact (Nat.div_eq_of_lt (by omega)).symm
  | n + 1, d, hd => by
    by_cases he : d = []
    · subst he
      rw [blksN_nil]
      simp only [List.length_nil, Nat.zero_add]
      exact (Nat.div_eq_of_lt (by omega)).symm
    · have hp := List.length_pos_iff.2 he
      rw [blksN_step he, List.length_cons, blksN_len k h1 n (d.drop size) (by rw [List.length_drop]; omega), List.length_drop]
      by_cases hs : size ≤ d.length
      · have e : d.length + size - 1 = (d.length - size + size - 1) + size := by omega
        rw [e, Nat.add_div_right _ (by omega)]
      · have e1 : (d.length - size + size - 1) / size = 0 := Nat.div_eq_of_lt (by omega)
        have e2 : (d.length + size - 1) / size = 1 := by
          have : d.length + size - 1 = (d.length - 1) + size := by omega
          rw [this, Nat.add_div_right _ (by omega), Nat.div_eq_of_lt (by omega)]
        rw [e1, e2]
theorem numbT_bytes : ∀ (l : List BlkD) (i : Nat), (((numbT i l).length : Nat) : Int) = bytesSum l
  | [], i => rfl
  | b :: l, i => by
    have h := numbT_bytes l (i + 1)
    have ht := text_size i b.raw b.size b.body
    rw [numbT, List.length_append, ba_len, ht]
    unfold bytesSum at *
    rw [List.map_cons, List.sum_cons, ← h]; omega
theorem bytes_sizes : ∀ (l : List BlkD), (∀ b ∈ l, (b.body.size : Int) ≤ b.size) → bytesSum l ≤ sizeSum l + 10 * l.length
  | [], _ => by simp [bytesSum, sizeSum]
  | b :: l, h => by
    have h1 := h b (List.mem_cons_self ..)
    have h2 := bytes_sizes l fun x hx => h x (List.mem_cons_of_mem _ hx)
    unfold bytesSum sizeSum at *
    rw [List.map_cons, List.map_cons, List.sum_cons, List.sum_cons, List.length_cons]; omega
/-- What is known of a container that was made. -/
structure Made (s : SetD) (dict L T : List UInt8) (l : List BlkD) : Prop where
  ok : McOk l
  text : T = numbT 0 l
  fits : fitsB s dict = true
  all : allF (dataO s dict) l = some L
  len : LenOk (dataO s dict) l
  small : ∀ b ∈ l, (b.body.size : Int) ≤ b.size
theorem made_of {s : SetD} {dict L T : List UInt8} {n : Int} (h : mkO s dict L n = some T) (hL : L.length ≤ 2000) : ∃ l, Made s dict L T l ∧ 1 ≤ n ∧ l.length = (L.length + n.toNat - 1) / n.toNat ∧ sizeSum l = L.length := by
  unfold mkO at h
  split at h
  · next hk =>
    unfold mkOk at hk
    simp only [Bool.and_eq_true, inB_iff, decide_eq_true_eq] at hk
    obtain ⟨hf, ⟨hn1, hn2⟩, h40, hl⟩ := hk
    obtain ⟨f1, f2, f3⟩ := fitsB_lits hf
    have hok : (learnK (startK s) dict).Ok := learnK_ok (startK_ok f1) f3
    have hm := blks_mc hok (size := n.toNat) (by omega) (by omega) (L := L) hL (by
      have : (L.length : Int) ≤ ((n.toNat * 40 : Nat) : Int) := by push_cast; omega
      omega)
    obtain ⟨i1, i2, i3⟩ := blksN_ok (learnK (startK s) dict) (size := n.toNat) (by omega) (by omega) L.length L (Nat.le_refl _)
    have hd := blksN_dat hok (size := n.toNat) (by omega) (by omega) L.length L (Nat.le_refl _)
    have hsmall : ∀ b ∈ blksN (learnK (startK s) dict) n.toNat L.length L, (b.body.size : Int) ≤ b.size := fun b hb => by
      obtain ⟨a1, a2, a3, a4, a5⟩ := i1 b hb
      have a6 := blksN_pos hok (size := n.toNat) (by omega) L.length L b hb
      cases hr : b.raw
      · have := a5 hr a6; omega
      · have := a4 hr; omega
    refine ⟨blksN (learnK (startK s) dict) n.toNat L.length L, ⟨hm, ?_, hf, ?_, ?_, hsmall⟩, hn1, blksN_len _ (by omega) L.length L (Nat.le_refl _), i2⟩
    · rw [numbT_blks hf]
      exact (Option.some.inj h).symm
    · rw [show dataO s dict = datK (learnK (startK s) dict) from funext fun b => datK_eq hf b]
      exact hd
    · intro b hb x hx
      obtain ⟨i, hi, rfl⟩ := List.getElem_of_mem hb
      have hform := hm.form i hi
      generalize (blksN (learnK (startK s) dict) n.toNat L.length L)[i] = B at *
      have e : dataO s dict ⟨(i : Int), B.raw, B.size, B.body⟩ = dataO s dict B := rfl
      exact len_dataO (b := ⟨(i : Int), B.raw, B.size, B.body⟩) hform (e.trans hx)
  · cases h
theorem dataO_renum (s : SetD) (dict : List UInt8) : ∀ (l : List BlkD) (i : Nat), allF (dataO s dict) (renum i l) = allF (dataO s dict) l
  | [], _ => rfl
  | b :: l, i => by
    have e : dataO s dict ⟨(i : Int), b.raw, b.size, b.body⟩ = dataO s dict b := rfl
    rw [renum, allF, allF, e, dataO_renum s dict l]
theorem renum_bytes : ∀ (l : List BlkD) (i : Nat), bytesSum (renum i l) = bytesSum l
  | [], _ => rfl
  | b :: l, i => by
    have := renum_bytes l (i + 1)
    unfold bytesSum at *
    rw [renum, List.map_cons, List.map_cons, List.sum_cons, List.sum_cons, this]
section
variable {s : SetD} {dict L T : List UInt8} {l : List BlkD}
theorem Made.cont (h : Made s dict L T l) : contBlocks (bs T) = some (renum 0 l) := by rw [h.text]; exact cont_text h.ok
theorem Made.conO (h : Made s dict L T l) : conO s dict (bs T) = some L := by
  unfold Proofs.YtekbbnkkninolaaGreat.conO
  rw [h.fits, h.cont, if_pos rfl, Option.bind_some, dataO_renum, h.all]
theorem Made.bytes (h : Made s dict L T l) : ((T.length : Nat) : Int) = bytesSum l := by rw [h.text]; exact numbT_bytes l 0
theorem Made.lens (h : Made s dict L T l) : (L.length : Int) = sizeSum l := allF_len l L h.len h.all
/-- The first bytes of a container that was made. -/
theorem Made.cut (h : Made s dict L T l) {k : Nat} (hk : k ≤ T.length) : ∃ j, j ≤ l.length ∧ (((k : Int) = bytesSum (l.take j) ∧ Proofs.YtekbbnkkninolaaGreat.conO s dict ((bs T).extract 0 k) = some (L.take (sizeSum (l.take j)).toNat)) ∨
    (j < l.length ∧ bytesSum (l.take j) < k ∧ (k : Int) < bytesSum (l.take (j + 1)) ∧ Proofs.YtekbbnkkninolaaGreat.conO s dict ((bs T).extract 0 k) = none)) := by
  have ht := h.text
  subst ht
  obtain ⟨j, h1, h2⟩ := cont_cut h.ok hk
  refine ⟨j, h1, ?_⟩
  rcases h2 with ⟨h3, h4⟩ | ⟨h3, h4, h5, h6⟩
  · left
    refine ⟨by rw [← numbT_bytes (l.take j) 0, h3], ?_⟩
    unfold Proofs.YtekbbnkkninolaaGreat.conO
    rw [h.fits, h4, if_pos rfl, Option.bind_some, dataO_renum]
    exact (allF_cut l L j h.len h.all).1
  · right
    refine ⟨h3, by rw [← numbT_bytes (l.take j) 0]; omega, by rw [← numbT_bytes (l.take (j + 1)) 0]; omega, ?_⟩
    unfold Proofs.YtekbbnkkninolaaGreat.conO
    rw [h.fits, h6, if_pos rfl]; rfl
end
theorem bytes_lt {l : List BlkD} {i : Nat} (h : i < l.length) : bytesSum (l.take i) < bytesSum (l.take (i + 1)) := by
  rw [bytesSum_take h]; omega
theorem bytes_mono {l : List BlkD} {i j : Nat} (h : i ≤ j) (hj : j ≤ l.length) : bytesSum (l.take i) ≤ bytesSum (l.take j) := by
  induction j with
  | zero => rw [show i = 0 by omega]; exact Int.le_refl _
  | succ j ih =>
    rcases Nat.lt_or_ge i (j + 1) with hl | hl
    · have := bytes_lt (l := l) (i := j) (by omega)
      have := ih (by omega) (by omega)
      omega
    · rw [show i = j + 1 by omega]; exact Int.le_refl _
/-- What the law's loop over the places finds. -/
def shW (l : List BlkD) (k tot : Int) : Nat → Bool
  | 0 => decide (k = tot)
  | i + 1 => if bytesSum (l.take i) = k then true else shW l k tot i
def shN (l : List BlkD) (k n0 : Int) : Nat → Int
  | 0 => n0
  | i + 1 => if bytesSum (l.take i) = k then sizeSum (l.take i) else shN l k n0 i
theorem sh_miss {l : List BlkD} {k tot n0 : Int} : ∀ i, (∀ q, q < i → bytesSum (l.take q) ≠ k) → shW l k tot i = decide (k = tot) ∧ shN l k n0 i = n0
  | 0, _ => ⟨rfl, rfl⟩
  | i + 1, h => by
    have h1 := h i (by omega)
    obtain ⟨h2, h3⟩ := sh_miss (l := l) (k := k) (tot := tot) (n0 := n0) i fun q hq => h q (by omega)
    rw [shW, shN, if_neg h1, if_neg h1]
    exact ⟨h2, h3⟩
theorem sh_hit {l : List BlkD} {k tot n0 : Int} {j : Nat} (hj : bytesSum (l.take j) = k) : ∀ i, j < i → (∀ q, j < q → q < i → bytesSum (l.take q) ≠ k) → shW l k tot i = true ∧ shN l k n0 i = sizeSum (l.take j)
  | 0, h, _ => by omega
  | i + 1, h, hn => by
    by_cases e : i = j
    · subst e
      rw [shW, shN, if_pos hj, if_pos hj]
      exact ⟨rfl, rfl⟩
    · have h1 := hn i (by omega) (by omega)
      rw [shW, shN, if_neg h1, if_neg h1]
      exact sh_hit hj i (by omega) fun q h2 h3 => hn q h2 (by omega)
/-- What the law finds of the first bytes. -/
theorem Made.short {s : SetD} {dict L T : List UInt8} {l : List BlkD} (h : Made s dict L T l) {k : Nat} (hk : k ≤ T.length) :
    Proofs.YtekbbnkkninolaaGreat.conO s dict ((bs T).extract 0 k) = (if shW l k T.length l.length = true then some (L.take (shN l k L.length l.length).toNat) else none) ∧ 0 ≤ shN l k L.length l.length ∧ shN l k L.length l.length ≤ L.length := by
  obtain ⟨j, h1, h2⟩ := h.cut hk
  have hb := h.bytes
  have hs := h.lens
  have hsum : 0 ≤ sizeSum (l.take j) ∧ sizeSum (l.take j) ≤ L.length := by
    have := (sizeSum_bd (accOk_take h.ok.acc j)).1
    have := sums_le h.ok.acc h1 (Nat.le_refl _)
    rw [List.take_length] at this
    omega
  rcases h2 with ⟨h3, h4⟩ | ⟨h3, h4, h5, h6⟩
  · rcases Nat.lt_or_ge j l.length with hj | hj
    · obtain ⟨e1, e2⟩ := sh_hit (l := l) (k := (k : Int)) (tot := (T.length : Int)) (n0 := (L.length : Int)) h3.symm l.length hj (fun q hq hql => by
        have := bytes_mono (l := l) (i := j + 1) (j := q) (by omega) (by omega)
        have := bytes_lt (l := l) (i := j) hj
        omega)
      rw [e1, e2, if_pos rfl]
      exact ⟨h4, hsum⟩
    · have e : j = l.length := by omega
      subst e
      rw [List.take_length] at h3 h4
      obtain ⟨e1, e2⟩ := sh_miss (l := l) (k := (k : Int)) (tot := (T.length : Int)) (n0 := (L.length : Int)) l.length (fun q hq => by
        have := bytes_mono (l := l) (i := q + 1) (j := l.length) (by omega) (Nat.le_refl _)
        have := bytes_lt (l := l) (i := q) hq
        rw [List.take_length] at *
        omega)
      rw [e1, e2, show decide ((k : Int) = (T.length : Int)) = true by simp; omega, if_pos rfl]
      rw [← hs] at h4
      exact ⟨h4, by omega, Int.le_refl _⟩
  · obtain ⟨e1, e2⟩ := sh_miss (l := l) (k := (k : Int)) (tot := (T.length : Int)) (n0 := (L.length : Int)) l.length (fun q hq => by
      rcases Nat.lt_or_ge j q with hl | hl
      · have := bytes_mono (l := l) (i := j + 1) (j := q) (by omega) (by omega)
        omega
      · have := bytes_mono (l := l) (i := q) (j := j) hl (by omega)
        omega)
    have hT : (k : Int) < T.length := by
      have := bytes_mono (l := l) (i := j + 1) (j := l.length) (by omega) (Nat.le_refl _)
      rw [List.take_length] at this
      omega
    rw [e1, e2, show decide ((k : Int) = (T.length : Int)) = false by simp; omega]
    simp only [Bool.false_eq_true, if_false]
    exact ⟨h6, by omega, Int.le_refl _⟩
end Go.Proofs.YtekbbnkkninolaaGreat

/- Walks of the program's blocksData and ContainerData. Conditions: what is known is valid and can be read; the strings are no longer than 2^30 bytes. -/
namespace Go.Proofs.YtekbbnkkninolaaGreat
set_option linter.unusedVariables false
set_option linter.unusedSimpArgs false
open Go Go.RowKit

structure BdAt (T : Option (List UInt8)) (k : KnD) (v : Value) (l : List BlkD) (w : World) (j : Nat) (acc : List UInt8) (wr : World) : Prop where
  le : j ≤ l.length
  tot : addO acc (allF (datK k) (l.drop j)) = T
  al : acc.length ≤ 64 * j
  kn : KnAt w.heap.size k v wr
  sb : IsSb (w.heap.size + 1) (w.heap.size + 1) (Lib.byteCells acc) wr
  up : Up w wr
def RelBd (T : Option (List UInt8)) (k : KnD) (v : Value) (l : List BlkD) (w : World) (i : Value) (wr : World) : Prop := ∃ (j : Nat) (acc : List UInt8), i = .int .i64 j ∧ BdAt T k v l w j acc wr

set_option maxRecDepth 100000 in
set_option maxHeartbeats 8000000 in
theorem blocksDataI_any (k : KnD) (v : Value) (lo : Nat) (l : List BlkD) (vb : Value) (w : World) (h : k.Ok) (hv : k.last = -1 → k.base = k.ps.length) (hr : RdP lo w v k.ps) (hb : RdB w vb l) (hok : accOk l) (hbd : ∀ b ∈ l, ∀ x, datK k b = some x → x.length ≤ 64) :
    Calls Tryz.prog 65  #[kV k v, vb] w (Same (optS (allF (datK k) l)) w) := by
  obtain ⟨i0, hi, hz0, hz1, hz2⟩ := info_parts infoBlock
  have cD := fun b wx hr hs => blockDataI_any k v lo b wx h hv hr hs
  have hrt := fun (wq : World) (hu : Up w wq) => hr.up hu
  have HRD := Lib.hid hb
  have HOK := Lib.hid hok
  have HBD := Lib.hid hbd
  have hl40 := hok.1
  obtain ⟨T, HT⟩ : ∃ T, Hid (allF (datK k) l = T) := ⟨_, rfl⟩
  rw [HT.out]
  obtain ⟨ak, capk, rfl, -, -, -, -⟩ := hr
  obtain ⟨a, cap, rfl, hnc, hcm, -⟩ := hb
  unfold maxLen at hcm
  clear hok hbd h hv
  simp only [kV] at *
  go_enter Tryz.func65, Tryz.ntmps65
  go_wp2
  go_loopw [13] (fun i wr => RelBd T k (.slice ak k.ps.length capk) l w i wr) (fun i _ => l.length - (intOf i).toNat)
  case atStart => exact ⟨0, [], rfl, ⟨Nat.zero_le _, by rw [List.drop_zero, addO_nil]; exact HT.out, by simp, box_up ((Up.refl _).alloc _) (MapKept.heap_alloc w _).1, by simpa using isSb_new (w.alloc _), by (repeat (first | with_reducible exact Up.refl _ | with_reducible assumption | with_reducible refine Up.set ?_ (by first | exact Nat.le_refl _ | (simp only []; omega) | (simp; omega)) _ | with_reducible refine Up.alloc ?_ _ | with_reducible refine Up.drew ?_ | refine Up.trans ?_ (by with_reducible assumption)))⟩⟩
  case round =>
    obtain ⟨j, acc, rfl, hM⟩ := hrel
    have HM := Lib.hid hM
    have hj := hM.le
    have hal := hM.al
    have hsbl := hM.sb.lt
    obtain ⟨hb0, r0, r1, r2, r3, r4, r5⟩ := hM.kn.cells
    clear hM
    by_cases hlt : j < l.length
    · obtain ⟨a9, cap9, e9, -, -, hc9⟩ := HRD.out.low HM.out.up
      cases e9
      obtain ⟨g, rfl, hg, hcell⟩ := hc9 (by omega)
      obtain ⟨c0, c1, c2, c3⟩ := hcell j hlt
      obtain ⟨hb1, hb2, hb3⟩ := HOK.out.2 _ (List.getElem_mem hlt)
      have HST := fun acc x h => @addO_step (datK k) l j hlt acc x h
      have HFA := fun acc h => @addO_fail (datK k) l j hlt acc h
      have hxb := fun x h => HBD.out _ (List.getElem_mem hlt) x h
      have cD2 := fun wx hr => cD (l[j]) wx hr (by omega)
      have hrt2 := fun (wq : World) (hu : Up wr wq) => hrt wq (HM.out.up.trans hu)
      clear hcell cD
      cases hdo : datK k l[j] with
      | none =>
        rw [hdo] at cD2
        have HTN : Hid (T = none) := HM.out.tot.symm.trans (HFA _ hdo)
        clear HST HFA hxb
        clear hdo
        generalize l[j] = bj at *
        obtain ⟨bn, br, bz, bb⟩ := bj
        unfold optS at cD2
        simp only [blkV, Option.getD_none, Option.isSome_none] at c0 c1 c2 c3 cD2
        go_wp2_with ((go_at_call 74; (with_reducible refine (cD2 _ (hrt2 _ (by (repeat (first | with_reducible exact Up.refl _ | with_reducible assumption | with_reducible refine Up.set ?_ (by first | exact Nat.le_refl _ | (simp only []; omega) | (simp; omega)) _ | with_reducible refine Up.alloc ?_ _ | with_reducible refine Up.drew ?_ | refine Up.trans ?_ (by with_reducible assumption)))))).mono ?_); rintro e w1 ⟨rfl, U1⟩; have B1 := bcell U1; have Z1 := U1.size; (try simp at Z1); (try rw [Nat.add_one_le_iff] at Z1)))
        go_ret2
        refine ⟨by rw [HTN.out]; rfl, ?_⟩
        exact HM.out.up.trans (by (repeat (first | with_reducible exact Up.refl _ | with_reducible assumption | with_reducible refine Up.set ?_ (by first | exact Nat.le_refl _ | (simp only []; omega) | (simp; omega)) _ | with_reducible refine Up.alloc ?_ _ | with_reducible refine Up.drew ?_ | refine Up.trans ?_ (by with_reducible assumption))))
      | some x =>
        rw [hdo] at cD2
        have hxl := hxb x hdo
        have hzx := bs_size x
        have HTN : Hid (addO (acc ++ x) (allF (datK k) (l.drop (j + 1))) = T) := (HST _ _ hdo).symm.trans HM.out.tot
        clear HST HFA hxb
        clear hdo
        generalize l[j] = bj at *
        obtain ⟨bn, br, bz, bb⟩ := bj
        unfold optS at cD2
        simp only [blkV, Option.getD_some, Option.isSome_some] at c0 c1 c2 c3 cD2
        have cW := fun wx hx hb => sbWrite_any (w.heap.size + 1) (w.heap.size + 1) (Lib.byteCells acc) (bs x) wx hx (by rw [Lib.byteCells_length]; omega) hb
        go_wp2_with ((go_at_call 74; (with_reducible refine (cD2 _ (hrt2 _ (by (repeat (first | with_reducible exact Up.refl _ | with_reducible assumption | with_reducible refine Up.set ?_ (by first | exact Nat.le_refl _ | (simp only []; omega) | (simp; omega)) _ | with_reducible refine Up.alloc ?_ _ | with_reducible refine Up.drew ?_ | refine Up.trans ?_ (by with_reducible assumption)))))).mono ?_); rintro e w5 ⟨rfl, U5⟩; have B5 := bcell U5; have Z5 := U5.size; (try simp at Z5); (try rw [Nat.add_one_le_iff] at Z5)))
        have hU5 : Up wr w5 := by (repeat (first | with_reducible exact Up.refl _ | with_reducible assumption | with_reducible refine Up.set ?_ (by first | exact Nat.le_refl _ | (simp only []; omega) | (simp; omega)) _ | with_reducible refine Up.alloc ?_ _ | with_reducible refine Up.drew ?_ | refine Up.trans ?_ (by with_reducible assumption)))
        (with_reducible refine (cW _ (HM.out.sb.up hU5) (by have := hU5.size; omega)).mono ?_)
        rintro e w6 ⟨rfl, h6, hb6⟩
        have hU6 : Up w w6 := Below.trans (HM.out.up.trans hU5) (hb6.mono (by omega))
        have HK6 := Lib.hid (show KnAt w.heap.size k (.slice ak k.ps.length capk) w6 from (hb6.block _ (by omega)).trans (HM.out.kn.up hU5))
        have HS6 : Hid (IsSb (w.heap.size + 1) (w.heap.size + 1) (Lib.byteCells (acc ++ x)) w6) := by
          have h7 := h6
          rw [strCells_bs9, byteCells_app] at h7
          exact .inr h7
        clear h6 hb6
        go_wp2
        go_roundw
        case rel => exact ⟨j + 1, acc ++ x, by go_num, ⟨by omega, HTN.out, by rw [List.length_append]; omega, HK6.out, HS6.out, hU6⟩⟩
        case measure => simp [intOf]; omega
    · have HTN : Hid (T = some acc) := HM.out.tot.symm.trans (addO_end (by omega) _)
      have cS := fun wx hx hb => sbString_any (w.heap.size + 1) (w.heap.size + 1) acc wx hx hb
      go_wp2_with fail
      (with_reducible refine (cS _ HM.out.sb (by omega)).mono ?_)
      rintro e w7 ⟨rfl, hb7⟩
      have hU7 : Up w w7 := Below.trans HM.out.up (hb7.mono (by omega))
      go_wp2
      refine bodyPost_ret (v := .tuple #[.string (bs acc), .bool true]) (by simp [results, Tryz.results65, go_sem]; try rfl) rfl ⟨by rw [HTN.out]; rfl, hU7⟩

end Go.Proofs.YtekbbnkkninolaaGreat

/- Walk of the program's ContainerData. Conditions: the strings are no longer than 2^30 bytes. -/
namespace Go.Proofs.YtekbbnkkninolaaGreat
set_option linter.unusedVariables false
set_option linter.unusedSimpArgs false
open Go Go.RowKit

set_option maxRecDepth 100000 in
set_option maxHeartbeats 8000000 in
theorem conI_any (s : SetD) (dict st : ByteArray) (w : World) (hli : -9223372036854775808 ≤ s.lit ∧ s.lit ≤ 9223372036854775807) (hi : dict.size ≤ 1073741824) (hs : st.size ≤ 1073741824) :
    Calls Tryz.prog 19  #[setV s, .string dict, .string st] w (Same (optS (conO s dict.data.toList st)) w) := by
  have cS := fun wx => startWI_any s dict wx hli hi
  cases h1 : fitsB s dict.data.toList
  · have HN : Hid (conO s dict.data.toList st = none) := by unfold Hid conO; rw [h1]; rfl
    rw [h1] at cS
    simp only [Bool.false_eq_true, if_false] at cS
    clear h1
    simp only [setV] at *
    go_enter Tryz.func19, Tryz.ntmps19
    go_wp2_with ((go_at_call 64; (with_reducible refine (cS _).mono ?_); rintro e w1 ⟨rfl, U1⟩; have B1 := bcell U1; have Z1 := U1.size; (try simp at Z1); (try rw [Nat.add_one_le_iff] at Z1)))
    go_ret2
    refine ⟨by rw [HN.out]; rfl, ?_⟩
    (repeat (first | with_reducible exact Up.refl _ | with_reducible assumption | with_reducible refine Up.set ?_ (by first | exact Nat.le_refl _ | (simp only []; omega) | (simp; omega)) _ | with_reducible refine Up.alloc ?_ _ | with_reducible refine Up.drew ?_ | refine Up.trans ?_ (by with_reducible assumption)))
  · rw [h1] at cS
    simp only [if_true] at cS
    obtain ⟨f1, f2, f3⟩ := fitsB_lits h1
    have hok : (learnK (startK s) dict.data.toList).Ok := learnK_ok (startK_ok f1) f3
    cases hc : contBlocks st with
    | none =>
      have HN : Hid (conO s dict.data.toList st = none) := by unfold Hid conO; rw [hc]; split <;> rfl
      have cB := fun wx => contI_none hc hs wx
      clear hc h1 f1 f2 f3 hok
      generalize learnK (startK s) dict.data.toList = kk at *
      simp only [setV, kV] at *
      go_enter Tryz.func19, Tryz.ntmps19
      go_wp2_with (go_at_call 64; (with_reducible refine (cS _).mono ?_); rintro e w1 ⟨v1, rfl, ho1, U1⟩; have B1 := bcell U1; have Z1 := U1.size; simp at Z1; (try rw [Nat.add_one_le_iff] at Z1); have Y0 : w.heap.size < w1.heap.size := (by omega); obtain ⟨a1, c1, rfl⟩ := ownsRow_shape ho1; clear ho1)
      go_wp2_with fail
      (with_reducible refine (cB _).mono ?_); rintro e w2 ⟨v2, rfl, -, U2⟩
      go_wp2
      go_ret2
      refine ⟨by rw [HN.out]; rfl, ?_⟩
      (repeat (first | with_reducible exact Up.refl _ | with_reducible assumption | with_reducible refine Up.set ?_ (by first | exact Nat.le_refl _ | (simp only []; omega) | (simp; omega)) _ | with_reducible refine Up.alloc ?_ _ | with_reducible refine Up.drew ?_ | refine Up.trans ?_ (by with_reducible assumption)))
    | some l =>
      have ho := contBlocks_ok hc
      have HN : Hid (conO s dict.data.toList st = allF (datK (learnK (startK s) dict.data.toList)) l) := by
        unfold Hid conO
        rw [h1, hc, show dataO s dict.data.toList = datK (learnK (startK s) dict.data.toList) from funext fun b => datK_eq h1 b]; rfl
      have hbd : ∀ b ∈ l, ∀ x, datK (learnK (startK s) dict.data.toList) b = some x → x.length ≤ 64 := fun b hb x hx => by
        rw [← datK_eq h1] at hx
        exact dataO_bd hx (ho.2 b hb).2.1 (ho.2 b hb).2.2
      have cB := fun wx => contI_some hc hs wx
      have cA := fun v vb wx hr hb => blocksDataI_any (learnK (startK s) dict.data.toList) v 0 l vb wx hok (fun _ => rfl) hr hb ho hbd
      rw [HN.out]
      clear hc h1 f1 f2 f3 hok HN hbd ho
      generalize learnK (startK s) dict.data.toList = kk at *
      unfold optS at *
      generalize (allF (datK kk) l).isSome = ok at *
      generalize (allF (datK kk) l).getD [] = ad at *
      simp only [setV, kV] at *
      go_enter Tryz.func19, Tryz.ntmps19
      go_wp2_with (go_at_call 64; (with_reducible refine (cS _).mono ?_); rintro e w1 ⟨v1, rfl, ho1, U1⟩; have B1 := bcell U1; have Z1 := U1.size; simp at Z1; (try rw [Nat.add_one_le_iff] at Z1); have Y0 : w.heap.size < w1.heap.size := (by omega); have HR1 := Lib.hid ((RdP.of_own ho1).low (Nat.zero_le _)); obtain ⟨a1, c1, rfl⟩ := ownsRow_shape ho1; clear ho1)
      go_wp2_with fail
      (with_reducible refine (cB _).mono ?_); rintro e w2 ⟨v2, rfl, ho2, U2⟩; have B2 := bcell U2; have Z2 := U2.size; simp at Z2; (try rw [Nat.add_one_le_iff] at Z2); have Y2 : w.heap.size < w2.heap.size := (by omega); have Y3 : w1.heap.size < w2.heap.size := (by omega); have HR2 := Lib.hid (RdB.of_own ho2); obtain ⟨a2, c2, rfl⟩ := ownsRow_shape ho2; clear ho2
      go_wp2_with ((go_at_call 65; (with_reducible refine (cA _ _ _ (HR1.out.up (by (repeat (first | with_reducible exact Up.refl _ | with_reducible assumption | with_reducible refine Up.set ?_ (by first | exact Nat.le_refl _ | (simp only []; omega) | (simp; omega)) _ | with_reducible refine Up.alloc ?_ _ | with_reducible refine Up.drew ?_ | refine Up.trans ?_ (by with_reducible assumption))))) (HR2.out.low (by (repeat (first | with_reducible exact Up.refl _ | with_reducible assumption | with_reducible refine Up.set ?_ (by first | exact Nat.le_refl _ | (simp only []; omega) | (simp; omega)) _ | with_reducible refine Up.alloc ?_ _ | with_reducible refine Up.drew ?_ | refine Up.trans ?_ (by with_reducible assumption)))))).mono ?_); rintro e w3 ⟨rfl, U3⟩; have B3 := bcell U3; have Z3 := U3.size; (try simp at Z3); (try rw [Nat.add_one_le_iff] at Z3)))
      go_ret2
      refine ⟨rfl, ?_⟩
      (repeat (first | with_reducible exact Up.refl _ | with_reducible assumption | with_reducible refine Up.set ?_ (by first | exact Nat.le_refl _ | (simp only []; omega) | (simp; omega)) _ | with_reducible refine Up.alloc ?_ _ | with_reducible refine Up.drew ?_ | refine Up.trans ?_ (by with_reducible assumption)))

end Go.Proofs.YtekbbnkkninolaaGreat

