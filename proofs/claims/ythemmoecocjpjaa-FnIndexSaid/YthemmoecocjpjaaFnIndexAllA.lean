/- Texts joined into one: the walks and laws that the last text leans on. Conditions: as each says. -/
import Derived.Test.YthemmoecocjpjaaUp
import Derived.Test.YthemmoecocjpjaaDraw8
import Derived.Test.YthemmoecocjpjaaMarks
import Derived.Test.YthemmoecocjpjaaCont4
import Derived.Test.YthemmoecocjpjaaBlk3
import Derived.Test.YthemmoecocjpjaaBytes
import Derived.Test.YthemmoecocjpjaaParse2
import Derived.Test.YthemmoecocjpjaaPlaces
import Derived.Test.YthemmoecocjpjaaEqs

/- The end of every law's row: the call answers true and nothing that was there has turned. Conditions: those of post_law. -/
namespace Go.Proofs.Ythemmoecocjpjaa
set_option linter.unusedVariables false
set_option linter.unusedSimpArgs false
open Go.ChangeShapes Go.WideShapes Go.ChangeAt Go.RowKit

theorem TrylaidOut : laidOutB Try.prog = true := by kernel_rfl
theorem own : ownKnob Try.prog.godebug = none := by kernel_rfl

theorem trodAll_up {H : Type} {enc : TypeId × Value → H} {P : Program} (hl : laidOutB P = true) {W W' : World} (hb : Below W.heap.size W W') : ∀ (ts : List TypeId) (vs : List Value) (ds : List (DataW H)) (ps : List MemPlace),
    (∀ t ∈ ts, P.readableRec t = true ∧ t < P.types.size) → (∀ x ∈ ps, x.block < W.heap.size) → DataW.TrodAll enc P W 0 (fun _ => true) true ts vs ds ps → DataW.TrodAll enc P W' 0 (fun b => decide (b < W.heap.size)) true ts vs ds ps
  | [], [], [], _, _, _, h => h
  | t :: ts, v :: vs, d :: ds, ps, ht, hp, h => by
    obtain ⟨p, q, h1, h2, rfl⟩ := h
    refine ⟨p, q, Below.trod hl (ht t (List.mem_cons_self ..)).1 (ht t (List.mem_cons_self ..)).2 h1 hb fun x hx => hp x (List.mem_append_left _ hx), ?_, rfl⟩
    exact trodAll_up hl hb ts vs ds q (fun t h => ht t (List.mem_cons_of_mem _ h)) (fun x hx => hp x (List.mem_append_right _ hx)) h2
  | [], _ :: _, _, _, _, _, h => h.elim
  | _ :: _, [], _, _, _, _, h => h.elim
  | [], [], _ :: _, _, _, _, h => h.elim
  | _ :: _, _ :: _, [], _, _, _, h => h.elim

theorem post_law {H : Type} {enc : TypeId × Value → H} {P : Program} {f : Func} {s : ChangeSpec} {W W' : World} {args : Array Value} {ds gs : List (DataW H)} {before : List MemPlace} {tb : TypeId}
    (hl : laidOutB P = true) (hp : (f.params.all fun t => P.readableRec t && decide (t < P.types.size)) = true) (hrt : f.resultTypes = #[tb]) (htb : P.underlying tb = some .bool) (hvars : s.vars = [])
    (hW : DataW.Whole enc P f.params.toList s.vars false W args.toList ds gs before) (hs : ∀ ds' : List (DataW H), ds' = ds → (s.fn H ds').results = [.lit (.bool true)] ∧ (s.fn H ds').args = ds ∧ (s.fn H ds').vars = []) (hb : Up W W') :
    s.post enc P f false true false false W args (.bool true) W' := by
  have hlt := fun p hp => hW.lt (p := p) hp
  obtain ⟨p, q, hA, hV, rfl, hz, hn⟩ := id hW
  rw [hvars] at hV
  obtain ⟨rfl, rfl⟩ := trodVars_none hV
  obtain ⟨e1, e2, e3⟩ := hs (ds ++ []) (by simp)
  refine ⟨ds, [], p ++ [], [], p, [], hW, ?_, ?_, ?_, ?_, fun h => by cases h⟩
  · rw [e1, hrt]
    exact trodAll_mk1 (shut_bool htb true)
  · rw [e2]
    refine trodAll_up hl hb _ _ _ _ (fun t ht => ?_) (fun x hx => hlt x (by simpa using hx)) hA
    have := Array.all_eq_true_iff_forall_mem.1 hp t (by simpa using ht)
    simpa using this
  · rw [e3, hvars]
    rfl
  · exact hb.frame _

end Go.Proofs.Ythemmoecocjpjaa

/- Arguments that are slices of bytes, and a string repeated. Conditions: as each says. -/
namespace Go.Proofs.Ythemmoecocjpjaa
set_option linter.unusedVariables false
set_option linter.unusedSimpArgs false
open Go.ChangeShapes Go.WideShapes Go.ChangeAt Go.RowKit Go.Joins
open Go.ChangeMaps (open_string shut_string)

theorem open_argU {H : Type} {enc : TypeId × Value → H} {W : World} {fuel : Nat} {a0 : Option Addr} {len cap : Nat} {d : DataW H} {p : List MemPlace}
    (h : DataW.trod enc Try.prog W 0 (fun _ => true) true fuel 22 [.slice a0 len cap] = some (d, p)) (hlt : ∀ x ∈ p, x.block < W.heap.size) : ∃ l, ArgU W (.slice a0 len cap) l := by
  rcases open_ints Try.underlying22 Try.underlying5 (by kernel_rfl) h with ⟨hcs, hx⟩ | ⟨a, len', cap', zs, hcs, _, hl, hm, hz, hx, hcell, hwz⟩
  · simp only [List.cons.injEq, and_true] at hcs
    cases hcs
    exact ⟨[], none, 0, rfl, Nat.le_refl _, by unfold maxLen; omega, fun h => absurd h (Nat.lt_irrefl _)⟩
  · simp only [List.cons.injEq, and_true] at hcs
    cases hcs
    simp only [Prod.mk.injEq] at hx
    obtain ⟨rfl, rfl⟩ := hx
    simp only [if_true] at hz
    have hlen : ((zs.take len).map fun n => UInt8.ofNat n.toNat).length = len := by simp; omega
    refine ⟨(zs.take len).map fun n => UInt8.ofNat n.toNat, some a, cap, by rw [hlen], by rw [hlen]; exact hl, hm, fun hp => ?_⟩
    rw [hlen] at hp
    obtain ⟨b, off, spot⟩ := a
    have hspot : spot = none := by simpa [Addr.add] using World.cell?_spot (hcell 0 (by omega))
    subst hspot
    refine ⟨b, off, rfl, hlt (.cell b off) (by simp only [MemPlace.row, List.mem_map, List.mem_range]; exact ⟨0, by omega, rfl⟩), fun i x hi => ?_⟩
    have hil : i < len := by
      have := (List.getElem?_eq_some_iff.1 hi).1
      rw [hlen] at this; exact this
    have hcj := hcell i (by omega)
    rw [Addr.add_lit] at hcj
    rw [hcj]
    have hb := range_u8 hwz i
    have e : zs.getD i 0 = zs[i]'(by omega) := by simp [List.getD, List.getElem?_eq_getElem (show i < zs.length by omega)]
    rw [List.getD_eq_getElem?_getD] at e ⊢
    rw [e] at hb ⊢
    have hx : x = UInt8.ofNat (zs[i]'(by omega)).toNat := by
      have : i < zs.length := by omega
      simp [List.getElem?_take, hil, this] at hi
      exact hi.symm
    rw [hx]
    congr 2
    simp only [UInt8.toNat_ofNat']
    omega

def RelSM (s : ByteArray) (n : Nat) (w : World) (out i : Value) (wr : World) : Prop := ∃ k : Nat, k ≤ n ∧ i = .int .i64 k ∧ out = .string (bs (rep k s.data.toList)) ∧ w = wr
theorem rep_snoc (n : Nat) (l : List UInt8) : rep n l ++ l = rep (n + 1) l := by
  induction n with
  | zero => simp [rep]
  | succ n ih => rw [rep_succ n, List.append_assoc, ih, rep_succ (n + 1)]

set_option maxRecDepth 100000 in
set_option maxHeartbeats 1000000 in
theorem soMany_any (s : ByteArray) (n : Nat) (m : Int) (hm : m = n) (w : World) (hn : n ≤ 1000) (hs : s.size ≤ 1000) :
    Calls Try.prog 18  #[.string s, .int .i64 m] w (fun e w' => e = .returned (.string (bs (rep n s.data.toList))) ∧ w = w') := by
  subst hm
  have hsl := ba_len s
  go_enter Try.func18, Try.ntmps18
  go_wp2
  go_loopw [5, 6] (fun out i wr => RelSM s n w out i wr) (fun _ i _ => n - (intOf i).toNat)
  case atStart => exact ⟨0, Nat.zero_le _, rfl, rfl, rfl⟩
  case round =>
    obtain ⟨k, hk, rfl, rfl, rfl⟩ := hrel
    have hz := bs_size (rep k s.data.toList)
    rw [rep_length, hsl] at hz
    have hz2 : (bs (rep k s.data.toList)).size ≤ 1000000 := by
      rw [hz]; exact Nat.le_trans (Nat.mul_le_mul (Nat.le_trans hk hn) hs) (by decide)
    have HE : Hid (bs (rep k s.data.toList) ++ s = bs (rep (k + 1) s.data.toList)) := by
      unfold Hid
      conv => lhs; arg 2; rw [← bs_self s]
      rw [bs_app, rep_snoc]
    by_cases hlt : k < n
    · clear hz
      go_wp2
      go_roundw
      case rel => exact ⟨k + 1, by omega, by go_num, congrArg Value.string HE.out, rfl⟩
      case measure => simp [intOf]; omega
    · have e : k = n := by omega
      subst e
      clear hz
      go_wp2
      go_ret
      exact ⟨rfl, rfl⟩

theorem soMany_one (s : ByteArray) (n : Nat) (m : Int) (hm : m = n) (w : World) (hn : n ≤ 1000) (hs : s.size = 1) :
    Calls Try.prog 18  #[.string s, .int .i64 m] w (fun e w' => ∃ A : ByteArray, e = .returned (.string A) ∧ A.size = n ∧ w = w') :=
  (soMany_any s n m hm w hn (by omega)).mono fun e w' ⟨he, hw⟩ => ⟨_, he, by rw [bs_size, rep_length, ba_len, hs, Nat.mul_one], hw⟩

end Go.Proofs.Ythemmoecocjpjaa

/- Walks of IndexOf, the program's and the reference's. Conditions: the string's length is below 2^30. -/
namespace Go.Proofs.Ythemmoecocjpjaa
set_option linter.unusedVariables false
set_option linter.unusedSimpArgs false
open Go.RowKit

def midQ (l : List BlkD) (k : Nat) : List PlaceD := placesK l k ++ List.replicate (l.length - k) ⟨0, 0⟩
theorem midQ_all (l : List BlkD) : midQ l l.length = placesK l l.length := by simp [midQ]
theorem midQ_at (l : List BlkD) (k : Nat) (h : k < l.length) : (midQ l k)[k]? = some ⟨0, 0⟩ := by
  rw [midQ, List.getElem?_append_right (by rw [placesK_length]; exact Nat.le_refl _), placesK_length, Nat.sub_self, List.getElem?_replicate, if_pos (by omega)]
theorem midQ_set (l : List BlkD) (k : Nat) (h : k < l.length) : ((cellsP (midQ l k)).set (k * 2) (.int .i64 (bytesSum (l.take k)))).set (k * 2 + 1) (.int .i64 (sizeSum (l.take k))) = cellsP (midQ l (k + 1)) := by
  have e : List.replicate (l.length - k) (⟨0, 0⟩ : PlaceD) = ⟨0, 0⟩ :: List.replicate (l.length - (k + 1)) ⟨0, 0⟩ := by
    rw [show l.length - k = (l.length - (k + 1)) + 1 by omega]; rfl
  rw [midQ, midQ, e, placesK_succ]
  simp only [cellsP, List.flatMap_append, List.flatMap_cons, List.flatMap_nil, List.append_nil, List.append_assoc]
  exact set2 _ _ _ _ _ _ _ (by have := cellsP_length (placesK l k); rw [placesK_length] at this; exact this)
theorem cellsP_zero (n : Nat) : cellsP (List.replicate n ⟨0, 0⟩) = List.replicate (n * 2) (.int .i64 0) := by
  induction n with
  | zero => rfl
  | succ n ih =>
    rw [List.replicate_succ]
    show plcC ⟨0, 0⟩ ++ cellsP (List.replicate n ⟨0, 0⟩) = _
    rw [ih, show (n + 1) * 2 = n * 2 + 1 + 1 by omega, List.replicate_succ, List.replicate_succ]; rfl
theorem made_zero (m : Nat) : (madeCells #[.int .i64 0, .int .i64 0] m).toList = List.replicate m (.int .i64 0) := by
  rw [List.eq_replicate_iff]
  refine ⟨by simp [madeCells], fun b hb => ?_⟩
  simp only [madeCells, Array.toList_map, List.mem_map] at hb
  obtain ⟨i, _, rfl⟩ := hb
  have : i % 2 = 0 ∨ i % 2 = 1 := by omega
  rcases this with e | e <;> simp [e]
theorem made_row (w : World) (base n : Nat) (hb : base ≤ w.heap.size) (hm : n ≤ maxLen) : (w.alloc (.cells (madeCells #[.int .i64 0, .int .i64 0] (n * 2)) 46)).ownsRow base 46 2 (.slice (some ⟨w.heap.size, 0, none⟩) n n) n (cellsP (List.replicate n ⟨0, 0⟩)) := by
  refine ⟨by rw [cellsP_zero]; simp, .inr ⟨_, _, _, rfl, hb, (MapKept.heap_alloc w _).1, Nat.le_refl _, hm, by simp [madeCells], ?_⟩⟩
  rw [made_zero, cellsP_zero, List.take_of_length_le (by simp)]
theorem ownsRow_other {w : World} {base : Nat} {e : TypeId} {size n : Nat} {xs : List Value} {g cap : Nat} (h : w.ownsRow base e size (.slice (some ⟨g, 0, none⟩) n cap) n xs) {p : Addr} (hp : g ≠ p.block) (u : Value) : (w.setCell p u).ownsRow base e size (.slice (some ⟨g, 0, none⟩) n cap) n xs := by
  refine ⟨h.1, ?_⟩
  rcases h.2 with ⟨hn, _⟩ | ⟨g', cap', cur, hv, hb, hg, rest⟩
  · cases hn
  · cases hv
    exact .inr ⟨g, cap, cur, rfl, hb, by rw [Below.heap_setCell _ _ _ _ hp]; exact hg, rest⟩
theorem box_other {w : World} {b : Nat} {o : Obj} (h : w.heap[b]? = some o) {p : Addr} (hp : b ≠ p.block) (u : Value) : (w.setCell p u).heap[b]? = some o := by
  rw [Below.heap_setCell _ _ _ _ hp]; exact h

/-- What IndexOf leaves. -/
def IndexPost (s : ByteArray) (w : World) (e : Ending) (w' : World) : Prop := ∃ v, e = .returned (.tuple #[v, .bool (contBlocks s).isSome]) ∧ w'.ownsRow w.heap.size 46 2 v (placesK ((contBlocks s).getD []) ((contBlocks s).getD []).length).length (cellsP (placesK ((contBlocks s).getD []) ((contBlocks s).getD []).length)) ∧ Up w w'

def RelI (l : List BlkD) (w1 : World) (i : Value) (wr : World) : Prop := ∃ k : Nat, k ≤ l.length ∧ i = .int .i64 k ∧ Up w1 wr ∧ wr.ownsRow w1.heap.size 46 2 (.slice (some ⟨w1.heap.size, 0, none⟩) l.length l.length) l.length (cellsP (midQ l k)) ∧ wr.heap[w1.heap.size + 1]? = some (.cells #[.int .i64 (bytesSum (l.take k)), .int .i64 (sizeSum (l.take k))] 46)

set_option maxRecDepth 100000 in
set_option maxHeartbeats 2000000 in
theorem indexI_any (s : ByteArray) (w : World) (hs : s.size ≤ 1073741824) :
    Calls Try.prog 28 #[.string s] w (IndexPost s w) := by
  obtain ⟨i0, hi0, hz0, hz1, hz2⟩ := info_parts infoPlace
  unfold IndexPost
  cases hc : contBlocks s with
  | none =>
    have cP := contI_none hc hs
    clear hc
    go_enter Try.func28, Try.ntmps28
    go_wp2_with (go_at_call 22; (with_reducible refine (cP _).mono ?_); rintro e w1 ⟨v, rfl, hown, U1⟩)
    go_ret2
    exact ⟨_, rfl, World.ownsRow_nil _ _ _ _, U1⟩
  | some l =>
    have cP := contI_some hc hs
    have hok := contBlocks_ok hc
    have hl40 := hok.1
    clear hc
    have hmk : ∀ w : World, (Instr.makeSlice 41 (.int .i64 (l.length : Int)) (.int .i64 (l.length : Int))).run Try.prog w = .ok (.slice (some ⟨w.heap.size, 0, none⟩) l.length l.length) (w.alloc (.cells (madeCells #[.int .i64 0, .int .i64 0] (l.length * 2)) 46)) := fun w => by
      have := run_make (P := Try.prog) w 41 46 i0 _ Try.underlying41 hi0 hz0 .i64 .i64 l.length l.length (by omega) (Int.le_refl _) (by rw [hz2]; omega) (by omega)
      rw [hz1] at this
      simpa [Value.cells] using this
    clear hz0 hz1 hz2 hi0
    go_enter Try.func28, Try.ntmps28
    go_wp2_with (go_at_call 22; (with_reducible refine (cP _).mono ?_); rintro e w1 ⟨v, rfl, hownB, U1⟩; obtain ⟨a, cap, rfl, hm, hsome⟩ := ownsRow_any hownB)
    go_loopw [23] (fun i wr => RelI l w1 i wr) (fun i _ => l.length - (intOf i).toNat)
    case atStart => exact ⟨0, Nat.zero_le _, rfl, ((Up.refl _).alloc _).alloc _, by simpa [midQ, placesK] using (made_row w1 w1.heap.size l.length (Nat.le_refl _) hm).alloc _, by simpa [bytesSum, sizeSum] using (MapKept.heap_alloc (w1.alloc (.cells (madeCells #[.int .i64 0, .int .i64 0] (l.length * 2)) 46)) _).1⟩
    case round =>
      obtain ⟨k, hk, rfl, hup, ho, hbx⟩ := hrel
      have hsz := hup.size
      have hlen : (l.take k).length ≤ 40 := by simp; omega
      obtain ⟨hb1, hb2⟩ := sizeSum_bd (accOk_take hok k)
      obtain ⟨hd1, hd2⟩ := bytesSum_bd (accOk_take hok k)
      have hb3 : sizeSum (l.take k) ≤ 2560 := by omega
      have hd3 : bytesSum (l.take k) ≤ 2960 := by omega
      clear hb2 hd2 hlen
      by_cases hlt : k < l.length
      · obtain ⟨g, rfl, hnc, hcm, hbg, hg, hcells⟩ := hsome (by omega)
        obtain ⟨c0, c1, c2, c3⟩ := blk_cells (w := wr) (fun j u hj => (hup.cell (p := ⟨g, j, none⟩) hg).trans (hcells j u hj)) hlt
        obtain ⟨d0, d1⟩ := plc_cells (read_cells ho) (midQ_at l k hlt)
        have f0 := ownsRow_free ho (k * 2)
        have f1 := ownsRow_free ho (k * 2 + 1)
        have n0 := box_cell hbx 0
        have n1 := box_cell hbx 1
        have m0 := box_free hbx 0
        have m1 := box_free hbx 1
        simp at n0 n1
        obtain ⟨hs1, hs2, hs3⟩ := (hok.2 l[k] (List.getElem_mem hlt))
        have HS : Hid (sizeSum (l.take (k + 1)) = sizeSum (l.take k) + l[k].size) := sizeSum_take hlt
        have HD : Hid (bytesSum (l.take (k + 1)) = bytesSum (l.take k) + 10 + l[k].body.size) := bytesSum_take hlt
        have hrl : w1.heap.size < wr.heap.size := (ho.lt _ rfl).2
        have hnl : w1.heap.size + 1 < wr.heap.size := (Array.getElem?_eq_some_iff.1 hbx).1
        have HM := Lib.hid (midQ_set l k hlt)
        have hgne : g ≠ w1.heap.size := by omega
        clear hcells
        go_wp2
        go_roundw
        case rel =>
          refine ⟨k + 1, by omega, by go_num, ((((hup.set (p := ⟨w1.heap.size, k * 2, none⟩) (Nat.le_refl _) _).set (p := ⟨w1.heap.size, k * 2 + 1, none⟩) (Nat.le_refl _) _).set (p := ⟨w1.heap.size + 1, 0, none⟩) (Nat.le_succ _) _).set (p := ⟨w1.heap.size + 1, 1, none⟩) (Nat.le_succ _) _).alloc _, ?_, ?_⟩
          · rw [← HM.out]
            exact (ownsRow_other (ownsRow_other (ownsRow_set (ownsRow_set ho (k * 2) _) (k * 2 + 1) _) (p := ⟨w1.heap.size + 1, 0, none⟩) (Nat.ne_of_lt (Nat.lt_succ_self _)) _) (p := ⟨w1.heap.size + 1, 1, none⟩) (Nat.ne_of_lt (Nat.lt_succ_self _)) _).alloc _
          · rw [HD.out, HS.out, Int.add_assoc]
            exact box_up ((Up.refl _).alloc _) (box_set (box_set (box_other (box_other hbx (p := ⟨w1.heap.size, k * 2, none⟩) (Nat.ne_of_gt (Nat.lt_succ_self _)) _) (p := ⟨w1.heap.size, k * 2 + 1, none⟩) (Nat.ne_of_gt (Nat.lt_succ_self _)) _) 0 _) 1 _)
        case measure => simp [intOf]; omega
      · have e : k = l.length := by omega
        subst e
        rw [midQ_all] at ho
        go_wp2
        go_ret2
        refine ⟨_, rfl, ?_, U1.trans hup⟩
        simp only [Option.getD_some, placesK_length]
        exact ownsRow_base ho U1.size

set_option maxRecDepth 100000 in
set_option maxHeartbeats 2000000 in
theorem indexS_any (s : ByteArray) (w : World) (hs : s.size ≤ 1073741824) :
    Calls Try.prog 29 #[.string s] w (IndexPost s w) := by
  unfold IndexPost
  cases hc : contBlocks s with
  | none =>
    have cP := contS_none hc hs
    clear hc
    go_enter Try.func29, Try.ntmps29
    go_wp2_with (go_at_call 67; (with_reducible refine (cP _).mono ?_); rintro e w1 ⟨v, rfl, hown, U1⟩)
    go_ret2
    exact ⟨_, rfl, World.ownsRow_made w1 #[] 0 U1.size (by unfold maxLen; omega) rfl, U1.alloc _⟩
  | some l =>
    have cP := contS_some hc hs
    have hok := contBlocks_ok hc
    clear hc
    go_enter Try.func29, Try.ntmps29
    go_wp2_with (first | (go_at_call 67; (with_reducible refine (cP _).mono ?_); rintro e w1 ⟨v, rfl, hownB, U1⟩) | (go_at_call 68; (with_reducible refine (placesS_any l _ _ _ hownB hok).mono ?_); rintro e w2 ⟨vp, rfl, hownP, U2⟩))
    go_ret2
    refine ⟨_, rfl, ?_, U1.trans U2⟩
    simp only [Option.getD_some, placesK_length]
    exact ownsRow_base hownP U1.size

end Go.Proofs.Ythemmoecocjpjaa

/- Walks of the reference's draws of strings, places and ranges, from the bytes of an input. Conditions: the bytes can be read. -/
namespace Go.Proofs.Ythemmoecocjpjaa
set_option linter.unusedVariables false
set_option linter.unusedSimpArgs false
open Go Go.RowKit

set_option maxRecDepth 100000 in
set_option maxHeartbeats 4000000 in
theorem drawContainerBlocks_any (v : Value) (l : List UInt8) (w : World) (h : ArgU w v l) :
    Calls Try.prog 21  #[v] w (fun e w' => ∃ s : ByteArray, e = .returned (.string s) ∧ s.size ≤ 10002 ∧ Up w w') := by
  have cO := fun w' hu => open_at (h.up (w' := w') hu)
  clear h
  go_enter Try.func21, Try.ntmps21
  go_wp2_with (go_at_call 60; (with_reducible refine (cO _ (by (repeat (first | with_reducible exact Up.refl _ | with_reducible assumption | with_reducible refine Up.set ?_ (by first | exact Nat.le_refl _ | (simp only []; omega) | (simp; omega)) _ | with_reducible refine Up.alloc ?_ _ | with_reducible refine Up.drew ?_ | refine Up.trans ?_ (by with_reducible assumption))))).mono ?_); rintro e w1 ⟨B, rfl, hr, hUp⟩)
  obtain ⟨p, hp, hr, HM⟩ := hr.least
  have hlt := hr.lt
  have HR := Lib.hid hr
  have hU := RdUp.refl w.heap.size B 0 w1
  have cS := fun wx N h hN => l5Some_any w.heap.size B wx N h hN
  have hne0 : ¬ w1.heap.size = w.heap.size := by omega
  clear cO
  go_wp2_with ((go_at_call 61; ((with_reducible refine (draw_atM (cS) HR.out hU (by intro c hU; (repeat (first | with_reducible assumption | refine RdUp.ups ?_ (by with_reducible assumption) | with_reducible refine RdUp.set ?_ (by first | exact Nat.le_refl _ | (simp only []; omega) | (simp; omega)) _ | with_reducible refine RdUp.alloc ?_ _ | with_reducible refine RdUp.drew ?_ | with_reducible exact RdUp.of (Up.refl _)))) (by omega)).mono ?_); rintro e w' ⟨v, rfl, ⟨s, dict, st, rfl, hs, hdi, hst⟩, hU, U⟩; have D := gcell U.1; have Z := U.1.size; (try simp at Z); (try have Y0 : w.heap.size < w'.heap.size := (by omega)); (try have Y1 : w.heap.size + 1 < w'.heap.size := (by omega)); (try have Y2 : w.heap.size + 1 + 1 < w'.heap.size := (by omega)); (try have X0 : w.heap.size < w'.heap.size + 1 := (by omega)); (try have X1 : w.heap.size + 1 < w'.heap.size + 1 := (by omega)); (try have X2 : w.heap.size + 1 + 1 < w'.heap.size + 1 := (by omega)))))
  have cB := fun wx N h hN => l5Bad_any w.heap.size B st wx N h hN hst
  clear D Z
  go_wp2_with ((go_at_call 64; ((with_reducible refine (draw_atM (cB) HR.out hU (by intro c hU; (repeat (first | with_reducible assumption | refine RdUp.ups ?_ (by with_reducible assumption) | with_reducible refine RdUp.set ?_ (by first | exact Nat.le_refl _ | (simp only []; omega) | (simp; omega)) _ | with_reducible refine RdUp.alloc ?_ _ | with_reducible refine RdUp.drew ?_ | with_reducible exact RdUp.of (Up.refl _)))) (by omega)).mono ?_); rintro e w' ⟨v, rfl, ⟨st2, rfl, hst2⟩, hU, U⟩; have D := gcell U.1; have Z := U.1.size; (try simp at Z); (try have Y0 : w.heap.size < w'.heap.size := (by omega)); (try have Y1 : w.heap.size + 1 < w'.heap.size := (by omega)); (try have Y2 : w.heap.size + 1 + 1 < w'.heap.size := (by omega)); (try have X0 : w.heap.size < w'.heap.size + 1 := (by omega)); (try have X1 : w.heap.size + 1 < w'.heap.size + 1 := (by omega)); (try have X2 : w.heap.size + 1 + 1 < w'.heap.size + 1 := (by omega)))))
  go_ret
  exact ⟨st2, rfl, hst2, up_grownR hUp hU.1 (Nat.le_refl _)⟩

set_option maxRecDepth 100000 in
set_option maxHeartbeats 1000000 in
theorem drawIndexOf_any (v : Value) (l : List UInt8) (w : World) (h : ArgU w v l) :
    Calls Try.prog 27  #[v] w (fun e w' => ∃ s : ByteArray, e = .returned (.string s) ∧ s.size ≤ 10002 ∧ Up w w') := by
  have cO := fun w' hu => drawContainerBlocks_any v l w' (h.up (w' := w') hu)
  clear h
  go_enter Try.func27, Try.ntmps27
  go_wp2_with (go_at_call 21; (with_reducible refine (cO _ (by (repeat (first | with_reducible exact Up.refl _ | with_reducible assumption | with_reducible refine Up.set ?_ (by first | exact Nat.le_refl _ | (simp only []; omega) | (simp; omega)) _ | with_reducible refine Up.alloc ?_ _ | with_reducible refine Up.drew ?_ | refine Up.trans ?_ (by with_reducible assumption))))).mono ?_); rintro e w1 ⟨s, rfl, hs, U1⟩)
  go_ret
  exact ⟨s, rfl, hs, U1⟩

def isInts2 (v : Value) : Prop := ∃ a b : Int, v = .tuple #[.int .i64 a, .int .i64 b]

set_option maxRecDepth 100000 in
set_option maxHeartbeats 4000000 in
theorem l5Range_any (rb : Nat) (B : Value) (n : Int) (w : World) (N : Nat) (h : Rdr rb B w N) (hN : N ≤ 700000000) (hn : n ≤ 100000) (hn0 : -100000 ≤ n) :
    Calls Try.prog 69  #[.pointer (some ⟨rb, 0, none⟩), .int .i64 n] w (Drawn rb B 10 isInts2 w) := by
  obtain ⟨p, hp, h, HM⟩ := h.least
  have hlt := h.lt
  have HR := Lib.hid h
  have hU := RdUp.refl rb B 0 w
  by_cases hn1 : n < 0
  all_goals
    go_enter Try.func69, Try.ntmps69
    go_wp2_with (first | (go_at_call 62; ((with_reducible refine (pick_at HR.out hU (by intro c hU; (repeat (first | with_reducible assumption | refine RdUp.ups ?_ (by with_reducible assumption) | with_reducible refine RdUp.set ?_ (by first | exact Nat.le_refl _ | (simp only []; omega) | (simp; omega)) _ | with_reducible refine RdUp.alloc ?_ _ | with_reducible refine RdUp.drew ?_ | with_reducible exact RdUp.of (Up.refl _)))) (by omega)).mono ?_); rintro e w' ⟨i, rfl, hi0, hi1, hU, U⟩; have D := gcell U.1; have Z := U.1.size; (try simp at Z); (try have Y0 : w.heap.size < w'.heap.size := (by omega)); (try have Y1 : w.heap.size + 1 < w'.heap.size := (by omega)); (try have Y2 : w.heap.size + 1 + 1 < w'.heap.size := (by omega)); (try have X0 : w.heap.size < w'.heap.size + 1 := (by omega)); (try have X1 : w.heap.size + 1 < w'.heap.size + 1 := (by omega)); (try have X2 : w.heap.size + 1 + 1 < w'.heap.size + 1 := (by omega)))) | (go_at_call 63; ((with_reducible refine (num_at ([-1, 9223372036854775807]) HR.out hU (by intro c hU; (repeat (first | with_reducible assumption | refine RdUp.ups ?_ (by with_reducible assumption) | with_reducible refine RdUp.set ?_ (by first | exact Nat.le_refl _ | (simp only []; omega) | (simp; omega)) _ | with_reducible refine RdUp.alloc ?_ _ | with_reducible refine RdUp.drew ?_ | with_reducible exact RdUp.of (Up.refl _)))) (by omega) (by first | rfl | (simp; done) | fail) (by first | rfl | (simp; done) | fail) (by first | rfl | (simp; done) | fail) (by simp) (by simp) (by first | rfl | (simp; done) | fail)).mono ?_); rintro e w' ⟨i, rfl, hi, hU, U⟩; have D := gcell U.1; have Z := U.1.size; (try simp at Z); (try have Y0 : w.heap.size < w'.heap.size := (by omega)); (try have Y1 : w.heap.size + 1 < w'.heap.size := (by omega)); (try have Y2 : w.heap.size + 1 + 1 < w'.heap.size := (by omega)); (try have X0 : w.heap.size < w'.heap.size + 1 := (by omega)); (try have X1 : w.heap.size + 1 < w'.heap.size + 1 := (by omega)); (try have X2 : w.heap.size + 1 + 1 < w'.heap.size + 1 := (by omega)); (skip))) | (go_at_call 63; ((with_reducible refine (num_at ([-1, n + 1, 9223372036854775807]) HR.out hU (by intro c hU; (repeat (first | with_reducible assumption | refine RdUp.ups ?_ (by with_reducible assumption) | with_reducible refine RdUp.set ?_ (by first | exact Nat.le_refl _ | (simp only []; omega) | (simp; omega)) _ | with_reducible refine RdUp.alloc ?_ _ | with_reducible refine RdUp.drew ?_ | with_reducible exact RdUp.of (Up.refl _)))) (by omega) (by first | rfl | (simp; done) | fail) (by first | rfl | (simp; done) | fail) (by first | rfl | (simp; done) | fail) (by simp) (by simp) (by first | rfl | (simp; done) | fail)).mono ?_); rintro e w' ⟨i, rfl, hi, hU, U⟩; have D := gcell U.1; have Z := U.1.size; (try simp at Z); (try have Y0 : w.heap.size < w'.heap.size := (by omega)); (try have Y1 : w.heap.size + 1 < w'.heap.size := (by omega)); (try have Y2 : w.heap.size + 1 + 1 < w'.heap.size := (by omega)); (try have X0 : w.heap.size < w'.heap.size + 1 := (by omega)); (try have X1 : w.heap.size + 1 < w'.heap.size + 1 := (by omega)); (try have X2 : w.heap.size + 1 + 1 < w'.heap.size + 1 := (by omega)); (skip))))
    all_goals
      go_ret2
      exact ⟨_, rfl, ⟨_, _, rfl⟩, by exact RdUp.fin hU (by intro c hU; (repeat (first | with_reducible assumption | refine RdUp.ups ?_ (by with_reducible assumption) | with_reducible refine RdUp.set ?_ (by first | exact Nat.le_refl _ | (simp only []; omega) | (simp; omega)) _ | with_reducible refine RdUp.alloc ?_ _ | with_reducible refine RdUp.drew ?_ | with_reducible exact RdUp.of (Up.refl _)))) (by omega)⟩

set_option maxRecDepth 100000 in
set_option maxHeartbeats 4000000 in
theorem drawTouchedBlocks_any (v : Value) (l : List UInt8) (w : World) (h : ArgU w v l) :
    Calls Try.prog 31  #[v] w (fun e w' => ∃ (s : ByteArray) (a b : Int), e = .returned (.tuple #[.string s, .int .i64 a, .int .i64 b]) ∧ s.size ≤ 10002 ∧ Up w w') := by
  have cO := fun w' hu => open_at (h.up (w' := w') hu)
  clear h
  go_enter Try.func31, Try.ntmps31
  go_wp2_with (go_at_call 60; (with_reducible refine (cO _ (by (repeat (first | with_reducible exact Up.refl _ | with_reducible assumption | with_reducible refine Up.set ?_ (by first | exact Nat.le_refl _ | (simp only []; omega) | (simp; omega)) _ | with_reducible refine Up.alloc ?_ _ | with_reducible refine Up.drew ?_ | refine Up.trans ?_ (by with_reducible assumption))))).mono ?_); rintro e w1 ⟨B, rfl, hr, hUp⟩)
  obtain ⟨p, hp, hr, HM⟩ := hr.least
  have hlt := hr.lt
  have HR := Lib.hid hr
  have hU := RdUp.refl w.heap.size B 0 w1
  have cS := fun wx N h hN => l5Some_any w.heap.size B wx N h hN
  have hne0 : ¬ w1.heap.size = w.heap.size := by omega
  clear cO
  go_wp2_with ((go_at_call 61; ((with_reducible refine (draw_atM (cS) HR.out hU (by intro c hU; (repeat (first | with_reducible assumption | refine RdUp.ups ?_ (by with_reducible assumption) | with_reducible refine RdUp.set ?_ (by first | exact Nat.le_refl _ | (simp only []; omega) | (simp; omega)) _ | with_reducible refine RdUp.alloc ?_ _ | with_reducible refine RdUp.drew ?_ | with_reducible exact RdUp.of (Up.refl _)))) (by omega)).mono ?_); rintro e w' ⟨v, rfl, ⟨s, dict, st, rfl, hs, hdi, hst⟩, hU, U⟩; have D := gcell U.1; have Z := U.1.size; (try simp at Z); (try have Y0 : w.heap.size < w'.heap.size := (by omega)); (try have Y1 : w.heap.size + 1 < w'.heap.size := (by omega)); (try have Y2 : w.heap.size + 1 + 1 < w'.heap.size := (by omega)); (try have X0 : w.heap.size < w'.heap.size + 1 := (by omega)); (try have X1 : w.heap.size + 1 < w'.heap.size + 1 := (by omega)); (try have X2 : w.heap.size + 1 + 1 < w'.heap.size + 1 := (by omega)))))
  have cB := fun wx N h hN => l5Bad_any w.heap.size B st wx N h hN hst
  have cC := fun wx => csizes_any st wx (by omega)
  have hcs : contSize st ≤ 2560 ∧ -1 ≤ contSize st := by
    unfold contSize
    cases hc : contBlocks st with
    | none => exact ⟨by decide, by decide⟩
    | some l => have := sizeSum_bd (contBlocks_ok hc); have := (contBlocks_ok hc).1; simp only; omega
  have cR := fun wx N h hN => l5Range_any w.heap.size B (contSize st) wx N h hN (by omega) (by omega)
  generalize contSize st = cs at *
  clear D Z
  go_wp2_with (first | (go_at_call 70; (with_reducible refine (cC _).mono ?_); rintro e w3 ⟨rfl, U3⟩; have B3 := bcell U3; have Z3 := U3.size; (try simp at Z3); (try rw [Nat.add_one_le_iff] at Z3)) | ((go_at_call 69; ((with_reducible refine (draw_atM (cR) HR.out hU (by intro c hU; (repeat (first | with_reducible assumption | refine RdUp.ups ?_ (by with_reducible assumption) | with_reducible refine RdUp.set ?_ (by first | exact Nat.le_refl _ | (simp only []; omega) | (simp; omega)) _ | with_reducible refine RdUp.alloc ?_ _ | with_reducible refine RdUp.drew ?_ | with_reducible exact RdUp.of (Up.refl _)))) (by omega)).mono ?_); rintro e w' ⟨v, rfl, ⟨ra, rb, rfl⟩, hU, U⟩; have D := gcell U.1; have Z := U.1.size; (try simp at Z); (try have Y0 : w.heap.size < w'.heap.size := (by omega)); (try have Y1 : w.heap.size + 1 < w'.heap.size := (by omega)); (try have Y2 : w.heap.size + 1 + 1 < w'.heap.size := (by omega)); (try have X0 : w.heap.size < w'.heap.size + 1 := (by omega)); (try have X1 : w.heap.size + 1 < w'.heap.size + 1 := (by omega)); (try have X2 : w.heap.size + 1 + 1 < w'.heap.size + 1 := (by omega)))); clear D Z) | (go_at_call 64; ((with_reducible refine (draw_atM (cB) HR.out hU (by intro c hU; (repeat (first | with_reducible assumption | refine RdUp.ups ?_ (by with_reducible assumption) | with_reducible refine RdUp.set ?_ (by first | exact Nat.le_refl _ | (simp only []; omega) | (simp; omega)) _ | with_reducible refine RdUp.alloc ?_ _ | with_reducible refine RdUp.drew ?_ | with_reducible exact RdUp.of (Up.refl _)))) (by omega)).mono ?_); rintro e w' ⟨v, rfl, ⟨st2, rfl, hst2⟩, hU, U⟩; have D := gcell U.1; have Z := U.1.size; (try simp at Z); (try have Y0 : w.heap.size < w'.heap.size := (by omega)); (try have Y1 : w.heap.size + 1 < w'.heap.size := (by omega)); (try have Y2 : w.heap.size + 1 + 1 < w'.heap.size := (by omega)); (try have X0 : w.heap.size < w'.heap.size + 1 := (by omega)); (try have X1 : w.heap.size + 1 < w'.heap.size + 1 := (by omega)); (try have X2 : w.heap.size + 1 + 1 < w'.heap.size + 1 := (by omega)))))
  refine bodyPost_ret (v := .tuple #[.string st2, .int .i64 ra, .int .i64 rb]) (by simp [results, Try.results31, go_sem]) rfl ?_
  exact ⟨st2, ra, rb, rfl, hst2, up_grownR hUp hU.1 (Nat.le_refl _)⟩

set_option maxRecDepth 100000 in
set_option maxHeartbeats 4000000 in
theorem drawParseBlock_any (v : Value) (l : List UInt8) (w : World) (h : ArgU w v l) :
    Calls Try.prog 19  #[v] w (fun e w' => ∃ (s : ByteArray) (a : Int), e = .returned (.tuple #[.string s, .int .i64 a]) ∧ s.size ≤ 10002 ∧ Up w w') := by
  have cO := fun w' hu => open_at (h.up (w' := w') hu)
  clear h
  go_enter Try.func19, Try.ntmps19
  go_wp2_with (go_at_call 60; (with_reducible refine (cO _ (by (repeat (first | with_reducible exact Up.refl _ | with_reducible assumption | with_reducible refine Up.set ?_ (by first | exact Nat.le_refl _ | (simp only []; omega) | (simp; omega)) _ | with_reducible refine Up.alloc ?_ _ | with_reducible refine Up.drew ?_ | refine Up.trans ?_ (by with_reducible assumption))))).mono ?_); rintro e w1 ⟨B, rfl, hr, hUp⟩)
  obtain ⟨p, hp, hr, HM⟩ := hr.least
  have hlt := hr.lt
  have HR := Lib.hid hr
  have hU := RdUp.refl w.heap.size B 0 w1
  have cS := fun wx N h hN => l5Some_any w.heap.size B wx N h hN
  have hne0 : ¬ w1.heap.size = w.heap.size := by omega
  clear cO
  go_wp2_with ((go_at_call 61; ((with_reducible refine (draw_atM (cS) HR.out hU (by intro c hU; (repeat (first | with_reducible assumption | refine RdUp.ups ?_ (by with_reducible assumption) | with_reducible refine RdUp.set ?_ (by first | exact Nat.le_refl _ | (simp only []; omega) | (simp; omega)) _ | with_reducible refine RdUp.alloc ?_ _ | with_reducible refine RdUp.drew ?_ | with_reducible exact RdUp.of (Up.refl _)))) (by omega)).mono ?_); rintro e w' ⟨v, rfl, ⟨s, dict, st, rfl, hs, hdi, hst⟩, hU, U⟩; have D := gcell U.1; have Z := U.1.size; (try simp at Z); (try have Y0 : w.heap.size < w'.heap.size := (by omega)); (try have Y1 : w.heap.size + 1 < w'.heap.size := (by omega)); (try have Y2 : w.heap.size + 1 + 1 < w'.heap.size := (by omega)); (try have X0 : w.heap.size < w'.heap.size + 1 := (by omega)); (try have X1 : w.heap.size + 1 < w'.heap.size + 1 := (by omega)); (try have X2 : w.heap.size + 1 + 1 < w'.heap.size + 1 := (by omega)))))
  have cB := fun wx N h hN => l5Bad_any w.heap.size B st wx N h hN hst
  have cX := fun wx => indexS_any st wx (by omega)
  unfold IndexPost at cX
  generalize (contBlocks st).isSome = okX at *
  generalize placesK ((contBlocks st).getD []) ((contBlocks st).getD []).length = L at *
  clear D Z
  go_wp2_with fail
  (with_reducible refine (cX _).mono ?_); rintro e w3 ⟨v3, rfl, h3, U3⟩
  obtain ⟨a3, ca3, rfl, hm3, hsome3⟩ := ownsRow_any h3
  have HUp := Lib.hid hUp
  clear hUp
  by_cases hL : 0 < L.length
  · obtain ⟨g, rfl, hg1, hg2, hg3, hg4, hcells⟩ := hsome3 hL
    have hgw3 := hg4
    have hgne : ¬ g = w.heap.size := by have := hlt; have := U.1.size; have := hg3; simp at this; omega
    have hcl := fun j (hj : j < L.length) => (plc_cells hcells (List.getElem?_eq_getElem hj)).1
    clear hcells
    go_wp2_with (first | (go_at_call 62; ((with_reducible refine (pick_at (n := (L.length : Int)) HR.out hU (by intro c hU; (repeat (first | with_reducible assumption | refine RdUp.ups ?_ (by with_reducible assumption) | with_reducible refine RdUp.set ?_ (by first | exact Nat.le_refl _ | (simp only []; omega) | (simp; omega)) _ | with_reducible refine RdUp.alloc ?_ _ | with_reducible refine RdUp.drew ?_ | with_reducible exact RdUp.of (Up.refl _)))) (by omega)).mono ?_); rintro e w' ⟨i, rfl, i0, i1, hU, U⟩; have D := gcell U.1; have Z := U.1.size; (try simp at Z); (try have Y0 : w.heap.size < w'.heap.size := (by omega)); (try have Y1 : w.heap.size + 1 < w'.heap.size := (by omega)); (try have Y2 : w.heap.size + 1 + 1 < w'.heap.size := (by omega)); (try have X0 : w.heap.size < w'.heap.size + 1 := (by omega)); (try have X1 : w.heap.size + 1 < w'.heap.size + 1 := (by omega)); (try have X2 : w.heap.size + 1 + 1 < w'.heap.size + 1 := (by omega)); ((obtain ⟨j, rfl⟩ := Int.eq_ofNat_of_zero_le i0); have hj : j < L.length := (by omega); have d0 := (D.1 g (j * 2) hg4 (fun e => hgne (Option.some.inj e))).trans (hcl j hj)))) | (go_at_call 62; ((with_reducible refine (pick_at HR.out hU (by intro c hU; (repeat (first | with_reducible assumption | refine RdUp.ups ?_ (by with_reducible assumption) | with_reducible refine RdUp.set ?_ (by first | exact Nat.le_refl _ | (simp only []; omega) | (simp; omega)) _ | with_reducible refine RdUp.alloc ?_ _ | with_reducible refine RdUp.drew ?_ | with_reducible exact RdUp.of (Up.refl _)))) (by omega)).mono ?_); rintro e w' ⟨i, rfl, hi0, hi1, hU, U⟩; have D := gcell U.1; have Z := U.1.size; (try simp at Z); (try have Y0 : w.heap.size < w'.heap.size := (by omega)); (try have Y1 : w.heap.size + 1 < w'.heap.size := (by omega)); (try have Y2 : w.heap.size + 1 + 1 < w'.heap.size := (by omega)); (try have X0 : w.heap.size < w'.heap.size + 1 := (by omega)); (try have X1 : w.heap.size + 1 < w'.heap.size + 1 := (by omega)); (try have X2 : w.heap.size + 1 + 1 < w'.heap.size + 1 := (by omega)))) | (go_at_call 63; ((with_reducible refine (num_at ([-1, (st.size : Int), (st.size : Int) + 1, 9223372036854775807]) HR.out hU (by intro c hU; (repeat (first | with_reducible assumption | refine RdUp.ups ?_ (by with_reducible assumption) | with_reducible refine RdUp.set ?_ (by first | exact Nat.le_refl _ | (simp only []; omega) | (simp; omega)) _ | with_reducible refine RdUp.alloc ?_ _ | with_reducible refine RdUp.drew ?_ | with_reducible exact RdUp.of (Up.refl _)))) (by omega) (by first | rfl | (simp; done) | fail) (by first | rfl | (simp; done) | fail) (by first | rfl | (simp; done) | fail) (by simp) (by simp) (by first | rfl | (simp; done) | fail)).mono ?_); rintro e w' ⟨i, rfl, hi, hU, U⟩; have D := gcell U.1; have Z := U.1.size; (try simp at Z); (try have Y0 : w.heap.size < w'.heap.size := (by omega)); (try have Y1 : w.heap.size + 1 < w'.heap.size := (by omega)); (try have Y2 : w.heap.size + 1 + 1 < w'.heap.size := (by omega)); (try have X0 : w.heap.size < w'.heap.size + 1 := (by omega)); (try have X1 : w.heap.size + 1 < w'.heap.size + 1 := (by omega)); (try have X2 : w.heap.size + 1 + 1 < w'.heap.size + 1 := (by omega)); (skip))) | (go_at_call 64; ((with_reducible refine (draw_atM (cB) HR.out hU (by intro c hU; (repeat (first | with_reducible assumption | refine RdUp.ups ?_ (by with_reducible assumption) | with_reducible refine RdUp.set ?_ (by first | exact Nat.le_refl _ | (simp only []; omega) | (simp; omega)) _ | with_reducible refine RdUp.alloc ?_ _ | with_reducible refine RdUp.drew ?_ | with_reducible exact RdUp.of (Up.refl _)))) (by omega)).mono ?_); rintro e w' ⟨v, rfl, ⟨st2, rfl, hst2⟩, hU, U⟩; have D := gcell U.1; have Z := U.1.size; (try simp at Z); (try have Y0 : w.heap.size < w'.heap.size := (by omega)); (try have Y1 : w.heap.size + 1 < w'.heap.size := (by omega)); (try have Y2 : w.heap.size + 1 + 1 < w'.heap.size := (by omega)); (try have X0 : w.heap.size < w'.heap.size + 1 := (by omega)); (try have X1 : w.heap.size + 1 < w'.heap.size + 1 := (by omega)); (try have X2 : w.heap.size + 1 + 1 < w'.heap.size + 1 := (by omega)))))
    all_goals
      go_ret2
      exact ⟨st2, _, rfl, hst2, up_grownR HUp.out hU.1 (Nat.le_refl _)⟩
  · have hL0 : L.length = 0 := by omega
    clear hsome3
    go_wp2_with (first | (go_at_call 62; ((with_reducible refine (pick_at HR.out hU (by intro c hU; (repeat (first | with_reducible assumption | refine RdUp.ups ?_ (by with_reducible assumption) | with_reducible refine RdUp.set ?_ (by first | exact Nat.le_refl _ | (simp only []; omega) | (simp; omega)) _ | with_reducible refine RdUp.alloc ?_ _ | with_reducible refine RdUp.drew ?_ | with_reducible exact RdUp.of (Up.refl _)))) (by omega)).mono ?_); rintro e w' ⟨i, rfl, hi0, hi1, hU, U⟩; have D := gcell U.1; have Z := U.1.size; (try simp at Z); (try have Y0 : w.heap.size < w'.heap.size := (by omega)); (try have Y1 : w.heap.size + 1 < w'.heap.size := (by omega)); (try have Y2 : w.heap.size + 1 + 1 < w'.heap.size := (by omega)); (try have X0 : w.heap.size < w'.heap.size + 1 := (by omega)); (try have X1 : w.heap.size + 1 < w'.heap.size + 1 := (by omega)); (try have X2 : w.heap.size + 1 + 1 < w'.heap.size + 1 := (by omega)))) | (go_at_call 63; ((with_reducible refine (num_at ([-1, (st.size : Int), (st.size : Int) + 1, 9223372036854775807]) HR.out hU (by intro c hU; (repeat (first | with_reducible assumption | refine RdUp.ups ?_ (by with_reducible assumption) | with_reducible refine RdUp.set ?_ (by first | exact Nat.le_refl _ | (simp only []; omega) | (simp; omega)) _ | with_reducible refine RdUp.alloc ?_ _ | with_reducible refine RdUp.drew ?_ | with_reducible exact RdUp.of (Up.refl _)))) (by omega) (by first | rfl | (simp; done) | fail) (by first | rfl | (simp; done) | fail) (by first | rfl | (simp; done) | fail) (by simp) (by simp) (by first | rfl | (simp; done) | fail)).mono ?_); rintro e w' ⟨i, rfl, hi, hU, U⟩; have D := gcell U.1; have Z := U.1.size; (try simp at Z); (try have Y0 : w.heap.size < w'.heap.size := (by omega)); (try have Y1 : w.heap.size + 1 < w'.heap.size := (by omega)); (try have Y2 : w.heap.size + 1 + 1 < w'.heap.size := (by omega)); (try have X0 : w.heap.size < w'.heap.size + 1 := (by omega)); (try have X1 : w.heap.size + 1 < w'.heap.size + 1 := (by omega)); (try have X2 : w.heap.size + 1 + 1 < w'.heap.size + 1 := (by omega)); (skip))) | (go_at_call 64; ((with_reducible refine (draw_atM (cB) HR.out hU (by intro c hU; (repeat (first | with_reducible assumption | refine RdUp.ups ?_ (by with_reducible assumption) | with_reducible refine RdUp.set ?_ (by first | exact Nat.le_refl _ | (simp only []; omega) | (simp; omega)) _ | with_reducible refine RdUp.alloc ?_ _ | with_reducible refine RdUp.drew ?_ | with_reducible exact RdUp.of (Up.refl _)))) (by omega)).mono ?_); rintro e w' ⟨v, rfl, ⟨st2, rfl, hst2⟩, hU, U⟩; have D := gcell U.1; have Z := U.1.size; (try simp at Z); (try have Y0 : w.heap.size < w'.heap.size := (by omega)); (try have Y1 : w.heap.size + 1 < w'.heap.size := (by omega)); (try have Y2 : w.heap.size + 1 + 1 < w'.heap.size := (by omega)); (try have X0 : w.heap.size < w'.heap.size + 1 := (by omega)); (try have X1 : w.heap.size + 1 < w'.heap.size + 1 := (by omega)); (try have X2 : w.heap.size + 1 + 1 < w'.heap.size + 1 := (by omega)))))
    all_goals
      go_ret2
      exact ⟨st2, _, rfl, hst2, up_grownR HUp.out hU.1 (Nat.le_refl _)⟩

end Go.Proofs.Ythemmoecocjpjaa

/- Plain: a block is parsed from its bytes, whatever is before and behind them, and not without the last one. Conditions: the block's parts fit together. -/
namespace Go.Proofs.Ythemmoecocjpjaa
set_option linter.unusedVariables false
set_option linter.unusedSimpArgs false
open Go.RowKit

theorem byteAt_mid (A T C : ByteArray) (i : Nat) (h : i < T.size) : byteAt (A ++ T ++ C) (A.size + i) = byteAt T i := by
  have hA : A.data.toList.length = A.size := by simp
  have hT : T.data.toList.length = T.size := by simp
  unfold byteAt
  rw [ba_append, ba_append, List.append_assoc, List.getD_eq_getElem?_getD, List.getD_eq_getElem?_getD, List.getElem?_append_right (by omega), hA, show A.size + i - A.size = i by omega, List.getElem?_append_left (by omega)]
theorem numAt_mid (A T C : ByteArray) (i : Nat) (h : i + 1 < T.size) : numAt (A ++ T ++ C) (A.size + i) = numAt T i := by
  unfold numAt
  rw [byteAt_mid A T C i (by omega), show A.size + i + 1 = A.size + (i + 1) by omega, byteAt_mid A T C (i + 1) h]
theorem ext_mid (A T C : ByteArray) (i j : Nat) (hij : i ≤ j) (hj : j ≤ T.size) : (A ++ T ++ C).extract (A.size + i) (A.size + j) = T.extract i j := by
  have hA : A.data.toList.length = A.size := by simp
  have hT : T.data.toList.length = T.size := by simp
  apply ba_ext
  rw [Lib.extract_data, Lib.extract_data, ba_append, ba_append, List.append_assoc, List.drop_append, List.drop_of_length_le (by omega), List.nil_append, hA, show A.size + i - A.size = i by omega, List.drop_append_of_le_length (by omega), List.take_append_of_le_length (by rw [List.length_drop]; omega), show A.size + j - (A.size + i) = j - i by omega]
theorem size3 (A T C : ByteArray) : (A ++ T ++ C).size = A.size + T.size + C.size := by rw [ByteArray.size_append, ByteArray.size_append]

def u8of (n : Int) : UInt8 := UInt8.ofNat n.toNat
theorem u8of_nat {n : Int} (h0 : 0 ≤ n) (h1 : n ≤ 255) : ((u8of n).toNat : Int) = n := by unfold u8of; rw [UInt8.toNat_ofNat']; omega
theorem text_list (n : Int) (r : Bool) (s : Int) (b : ByteArray) : (textB n r s b).data.toList = [u8of 181, u8of (kindB r), u8of (n / 256), u8of (n % 256), u8of (s / 256), u8of (s % 256), u8of ((b.size : Int) / 256), u8of ((b.size : Int) % 256)] ++ (b.data.toList ++ [u8of (sumOf (inner n r s b) / 256), u8of (sumOf (inner n r s b) % 256)]) := by
  unfold textB
  rw [ba_append, ba_append, ba_nums, two, ba_nums]
  conv => lhs; arg 1; arg 2; unfold inner
  simp only [ba_append, two, ba_nums]
  simp [u8of]
theorem text_size (n : Int) (r : Bool) (s : Int) (b : ByteArray) : (textB n r s b).size = b.size + 10 := by
  have h := congrArg List.length (text_list n r s b)
  have hT : (textB n r s b).data.toList.length = (textB n r s b).size := by simp
  have hb : b.data.toList.length = b.size := by simp
  rw [hT, List.length_append, List.length_append, hb] at h
  simp at h
  omega
/-- What the bytes of a block are. -/
structure TextOf (n : Int) (r : Bool) (s : Int) (b T : ByteArray) : Prop where
  size : T.size = b.size + 10
  b0 : byteAt T 0 = 181
  b1 : byteAt T 1 = kindB r
  n2 : numAt T 2 = n
  n4 : numAt T 4 = s
  n6 : numAt T 6 = b.size
  body : T.extract 8 (8 + b.size) = b
  inn : T.extract 1 (8 + b.size) = inner n r s b
  sum : numAt T (8 + b.size) = sumOf (inner n r s b)
theorem textOf {n : Int} {r : Bool} {s : Int} {b : ByteArray} (h1 : 0 ≤ n ∧ n ≤ 39) (h2 : 1 ≤ s ∧ s ≤ 64) (h3 : b.size ≤ 64) : TextOf n r s b (textB n r s b) := by
  have hl := text_list n r s b
  have hs := text_size n r s b
  have hsb := sumOf_bd (inner n r s b)
  have hbl : b.data.toList.length = b.size := by simp
  have hk : 0 ≤ kindB r ∧ kindB r ≤ 255 := by unfold kindB; split <;> omega
  have hlow : ∀ i (x : Int), 0 ≤ x → x ≤ 255 → ([u8of 181, u8of (kindB r), u8of (n / 256), u8of (n % 256), u8of (s / 256), u8of (s % 256), u8of ((b.size : Int) / 256), u8of ((b.size : Int) % 256)] : List UInt8)[i]? = some (u8of x) → byteAt (textB n r s b) i = x := fun i x x0 x1 hi => by
    unfold byteAt
    rw [hl, List.getD_eq_getElem?_getD, List.getElem?_append_left (List.getElem?_eq_some_iff.1 hi).1, hi]
    exact u8of_nat x0 x1
  have hhigh : ∀ i (x : Int), 0 ≤ x → x ≤ 255 → ([u8of (sumOf (inner n r s b) / 256), u8of (sumOf (inner n r s b) % 256)] : List UInt8)[i]? = some (u8of x) → byteAt (textB n r s b) (8 + b.size + i) = x := fun i x x0 x1 hi => by
    unfold byteAt
    rw [hl, List.getD_eq_getElem?_getD, List.getElem?_append_right (by simp; omega), List.getElem?_append_right (by simp; omega)]
    rw [show 8 + b.size + i - ([u8of 181, u8of (kindB r), u8of (n / 256), u8of (n % 256), u8of (s / 256), u8of (s % 256), u8of ((b.size : Int) / 256), u8of ((b.size : Int) % 256)] : List UInt8).length - b.data.toList.length = i by rw [hbl]; simp; omega, hi]
    exact u8of_nat x0 x1
  have hbody : (textB n r s b).extract 8 (8 + b.size) = b := by
    apply ba_ext
    rw [Lib.extract_data, hl, show 8 + b.size - 8 = b.size by omega]
    rw [List.drop_append_of_le_length (by simp), List.drop_of_length_le (by simp), List.nil_append, List.take_append_of_le_length (by omega), ← hbl, List.take_length]
  refine ⟨hs, hlow 0 181 (by omega) (by omega) rfl, hlow 1 _ hk.1 hk.2 rfl, ?_, ?_, ?_, hbody, ?_, ?_⟩
  · unfold numAt; rw [hlow 2 (n / 256) (by omega) (by omega) rfl, hlow 3 (n % 256) (by omega) (by omega) rfl]; omega
  · unfold numAt; rw [hlow 4 (s / 256) (by omega) (by omega) rfl, hlow 5 (s % 256) (by omega) (by omega) rfl]; omega
  · unfold numAt; rw [hlow 6 ((b.size : Int) / 256) (by omega) (by omega) rfl, hlow 7 ((b.size : Int) % 256) (by omega) (by omega) rfl]; omega
  · have e : inner n r s b = strOfNums [kindB r] ++ two n ++ two s ++ two b.size ++ b := rfl
    apply ba_ext
    rw [Lib.extract_data, hl, show 8 + b.size - 1 = b.size + 7 by omega]
    conv => rhs; rw [e]
    simp only [ba_append, two, ba_nums]
    simp only [List.cons_append, List.nil_append, List.drop_succ_cons, List.drop_zero, List.map_cons, List.map_nil, List.append_assoc]
    rw [show b.size + 7 = b.size + 1 + 1 + 1 + 1 + 1 + 1 + 1 by omega]
    simp only [List.take_succ_cons]
    rw [List.take_append_of_le_length (by omega), ← hbl, List.take_length]
    rfl
  · unfold numAt
    have g1 := hhigh 0 (sumOf (inner n r s b) / 256) (by omega) (by omega) rfl
    have g2 := hhigh 1 (sumOf (inner n r s b) % 256) (by omega) (by omega) rfl
    rw [Nat.add_zero] at g1
    rw [g1, g2]
    omega

theorem parse_text {n : Int} {r : Bool} {s : Int} {b : ByteArray} (h : formB n r s b = true) (A C : ByteArray) :
    parseV (A ++ textB n r s b ++ C) (A.size : Nat) = .tuple #[.agg #[.int .i64 n, .bool r, .int .i64 s, .string b], .int .i64 (A.size + (textB n r s b).size : Nat), .bool true] := by
  obtain ⟨h1, h2, h3⟩ := formB_bd h
  have t := textOf (r := r) h1 h2 h3
  generalize textB n r s b = T at *
  have hz := t.size
  have hsz := size3 A T C
  have e0 : byteAt (A ++ T ++ C) A.size = 181 := by have := byteAt_mid A T C 0 (by omega); rw [Nat.add_zero] at this; rw [this, t.b0]
  have e1 : byteAt (A ++ T ++ C) (A.size + 1) = kindB r := by rw [byteAt_mid A T C 1 (by omega), t.b1]
  have e2 : numAt (A ++ T ++ C) (A.size + 2) = n := by rw [numAt_mid A T C 2 (by omega), t.n2]
  have e4 : numAt (A ++ T ++ C) (A.size + 4) = s := by rw [numAt_mid A T C 4 (by omega), t.n4]
  have e6 : numAt (A ++ T ++ C) (A.size + 6) = b.size := by rw [numAt_mid A T C 6 (by omega), t.n6]
  have ee : endAt (A ++ T ++ C) A.size = A.size + (8 + b.size) := by unfold endAt; rw [e6]; omega
  have eb : bodyAt (A ++ T ++ C) A.size = b := by
    unfold bodyAt; rw [e6, show A.size + 8 + ((b.size : Nat) : Int).toNat = A.size + (8 + b.size) by omega, ext_mid A T C 8 (8 + b.size) (by omega) (by omega), t.body]
  have ei : (A ++ T ++ C).extract (A.size + 1) (endAt (A ++ T ++ C) A.size) = inner n r s b := by rw [ee, ext_mid A T C 1 (8 + b.size) (by omega) (by omega), t.inn]
  have es : numAt (A ++ T ++ C) (endAt (A ++ T ++ C) A.size) = sumOf (inner n r s b) := by rw [ee, numAt_mid A T C (8 + b.size) (by omega), t.sum]
  have ek : (kindB r == 0) = r := by cases r <;> rfl
  have hk1 : kindB r ≤ 1 := by cases r <;> decide
  have hp : parseOk (A ++ T ++ C) A.size = true := by
    unfold parseOk headOk
    rw [e0, e1, e2, e4, eb, ei, es, ek, h, ee]
    simp only [Bool.and_eq_true, decide_eq_true_eq, beq_iff_eq]
    refine ⟨⟨⟨⟨⟨by omega, trivial⟩, hk1⟩, by omega⟩, trivial⟩, trivial⟩
  rw [parseV_yes hp]
  unfold parsed
  rw [e1, e2, e4, eb, ek, ee]
  have : A.size + (8 + b.size) + 2 = A.size + T.size := by omega
  rw [this]
theorem parse_short {n : Int} {r : Bool} {s : Int} {b : ByteArray} (h : formB n r s b = true) : parseV ((textB n r s b).extract 0 ((textB n r s b).size - 1)) 0 = noBlock := by
  obtain ⟨h1, h2, h3⟩ := formB_bd h
  have hb1 : 1 ≤ b.size := by
    unfold formB at h
    simp only [Bool.and_eq_true, inB_iff] at h
    have h4 := h.2
    split at h4
    · have : (b.size : Int) = s := by simpa using h4
      omega
    · rw [inB_iff] at h4; omega
  have t := textOf (r := r) h1 h2 h3
  generalize textB n r s b = T at *
  have hz := t.size
  have hx : (T.extract 0 (T.size - 1)).size = T.size - 1 := by rw [ByteArray.size_extract]; omega
  have e6 : numAt (T.extract 0 (T.size - 1)) 6 = b.size := by
    rw [numAt_extract T 0 (T.size - 1) 6 (by omega) (by omega), Nat.zero_add, t.n6]
  have hp : parseOk (T.extract 0 (T.size - 1)) 0 = false := by
    unfold parseOk endAt
    rw [Nat.zero_add, Nat.zero_add, e6, hx]
    have : decide (8 + ((b.size : Nat) : Int).toNat + 2 ≤ T.size - 1) = false := by simp; omega
    rw [this]
    simp
  exact parseV_not hp

end Go.Proofs.Ythemmoecocjpjaa

/- Plain: where the blocks of a container lie in it. Conditions: the string is a container. -/
namespace Go.Proofs.Ythemmoecocjpjaa
set_option linter.unusedVariables false
set_option linter.unusedSimpArgs false
open Go.RowKit

theorem parse_block {s : ByteArray} {k : Nat} (h : parseOk s k = true) : textB (numAt s (k + 2)) (byteAt s (k + 1) == 0) (numAt s (k + 4)) (bodyAt s k) = s.extract k (endAt s k + 2) := by
  unfold parseOk at h
  simp only [Bool.and_eq_true, decide_eq_true_eq, beq_iff_eq] at h
  obtain ⟨⟨⟨h1, h2⟩, h3⟩, h4⟩ := h
  obtain ⟨-, h5, h6⟩ := headOk_yes h1
  have hn := numAt_bd s (k + 6)
  obtain ⟨m, hm⟩ : ∃ m : Nat, numAt s (k + 6) = m := ⟨(numAt s (k + 6)).toNat, by omega⟩
  have he : endAt s k = k + 8 + m := by unfold endAt; rw [hm]; rfl
  rw [he] at h2 h4 ⊢
  have hb : bodyAt s k = s.extract (k + 8) (k + 8 + m) := by unfold bodyAt; rw [hm]; rfl
  rw [hb, show k + 8 + m + 2 = k + 10 + m by omega]
  exact (text_at s k m h2 hm h5 h6).2 h4
theorem body_size {s : ByteArray} {k : Nat} (h : endAt s k + 2 ≤ s.size) : k + 10 + (bodyAt s k).size = endAt s k + 2 := by
  unfold endAt at *
  unfold bodyAt
  rw [ByteArray.size_extract]; omega
theorem bytesSum_snoc (l : List BlkD) (b : BlkD) : bytesSum (l ++ [b]) = bytesSum l + 10 + b.body.size := by
  simp only [bytesSum, List.map_append, List.sum_append, List.map_cons, List.map_nil, List.sum_cons, List.sum_nil]; omega
/-- Block i of l lies at its place in s. -/
def LiesAt (s : ByteArray) (l : List BlkD) (i : Nat) (b : BlkD) : Prop := ∃ p : Nat, (p : Int) = bytesSum (l.take i) ∧ p < s.size ∧ parseOk s p = true ∧ blkAt s p = b ∧ b.num = i ∧ ((endAt s p + 2 : Nat) : Int) = bytesSum (l.take (i + 1)) ∧ endAt s p + 2 ≤ s.size
theorem goBlocks_lies {s : ByteArray} : ∀ (n k : Nat) (acc l : List BlkD), s.size - k ≤ n → (k : Int) = bytesSum acc → k ≤ s.size → (∀ i b, acc[i]? = some b → LiesAt s acc i b) → goBlocks s k acc = some l → ((s.size : Nat) : Int) = bytesSum l ∧ ∀ i b, l[i]? = some b → LiesAt s l i b := by
  intro n
  induction n with
  | zero =>
    intro k acc l hn hk hks hacc h
    rw [go_end (by omega)] at h; cases h
    exact ⟨by rw [← hk]; omega, hacc⟩
  | succ n ih =>
    intro k acc l hn hk hks hacc h
    by_cases hlt : k < s.size
    · by_cases hp : parseOk s k = true ∧ numAt s (k + 2) = acc.length
      · rw [← go_step hlt hp.1 hp.2] at h
        have hend := (parseOk_form hp.1).2.1
        have hbs := body_size hend
        have hsn := bytesSum_snoc acc (blkAt s k)
        have hbb : (blkAt s k).body = bodyAt s k := rfl
        have hk2 : ((endAt s k + 2 : Nat) : Int) = bytesSum (acc ++ [blkAt s k]) := by rw [hsn, hbb, ← hk]; omega
        refine ih _ _ l (by have := endAt_lt s k; omega) hk2 hend (fun i b hb => ?_) h
        rcases Nat.lt_or_ge i acc.length with hi | hi
        · rw [List.getElem?_append_left hi] at hb
          obtain ⟨p, h1, h2, h3, h4, h5, h6, h7⟩ := hacc i b hb
          exact ⟨p, by rw [List.take_append_of_le_length (by omega)]; exact h1, h2, h3, h4, h5, by rw [List.take_append_of_le_length (by omega)]; exact h6, h7⟩
        · have hie : i = acc.length := by
            have := (List.getElem?_eq_some_iff.1 hb).1
            simp at this; omega
          subst hie
          rw [List.getElem?_append_right (Nat.le_refl _)] at hb
          simp at hb
          subst hb
          exact ⟨k, by rw [List.take_left]; exact hk, hlt, hp.1, rfl, hp.2, by rw [List.take_of_length_le (by simp)]; exact hk2, hend⟩
      · rw [go_fail hlt hp] at h; cases h
    · rw [go_end hlt] at h; cases h
      exact ⟨by rw [← hk]; omega, hacc⟩
theorem cont_lies {s : ByteArray} {l : List BlkD} (h : contBlocks s = some l) : ((s.size : Nat) : Int) = bytesSum l ∧ sizeSum l ≤ 2000 ∧ ∀ i b, l[i]? = some b → LiesAt s l i b := by
  unfold contBlocks at h
  cases hg : goBlocks s 0 [] with
  | none => rw [hg] at h; cases h
  | some l' =>
    rw [hg, Option.bind_some] at h
    split at h
    · next hsz =>
      cases h
      obtain ⟨h1, h2⟩ := goBlocks_lies s.size 0 [] l (by omega) (by simp [bytesSum]) (Nat.zero_le _) (fun i b hb => by simp at hb) hg
      exact ⟨h1, hsz, h2⟩
    · cases h
/-- The bytes of the first i blocks. -/
def allUpto (s : ByteArray) (l : List BlkD) (i : Nat) : ByteArray := s.extract 0 (bytesSum (l.take i)).toNat
theorem allUpto_zero (s : ByteArray) (l : List BlkD) : allUpto s l 0 = ByteArray.empty := by
  apply ba_ext
  unfold allUpto
  rw [Lib.extract_data]
  simp [bytesSum]
theorem allUpto_step {s : ByteArray} {l : List BlkD} {i : Nat} {b : BlkD} (h : LiesAt s l i b) : allUpto s l i ++ textB b.num b.raw b.size b.body = allUpto s l (i + 1) ∧ (allUpto s l i).size ≤ s.size := by
  obtain ⟨p, h1, h2, h3, rfl, h5, h6, h7⟩ := h
  have ht := parse_block h3
  unfold allUpto
  rw [← h1, ← h6, Int.toNat_natCast, Int.toNat_natCast]
  refine ⟨?_, by rw [ByteArray.size_extract]; omega⟩
  show s.extract 0 p ++ textB (numAt s (p + 2)) (byteAt s (p + 1) == 0) (numAt s (p + 4)) (bodyAt s p) = _
  rw [ht, ← ext_split s 0 p (endAt s p + 2) (Nat.zero_le _) (by have := endAt_lt s p; omega)]
theorem allUpto_all {s : ByteArray} {l : List BlkD} (h : ((s.size : Nat) : Int) = bytesSum l) : allUpto s l l.length = s := by
  unfold allUpto
  rw [List.take_length, ← h, Int.toNat_natCast]
  apply ba_ext
  rw [Lib.extract_data, List.drop_zero, Nat.sub_zero]
  exact List.take_of_length_le (by simp)
theorem lies_form {s : ByteArray} {l : List BlkD} {i : Nat} {b : BlkD} (h : LiesAt s l i b) : formB b.num b.raw b.size b.body = true := by
  obtain ⟨p, -, -, h3, rfl, -⟩ := h
  exact (parseOk_form h3).2.2
theorem lies_parse {s : ByteArray} {l : List BlkD} {i : Nat} {b : BlkD} (h : LiesAt s l i b) : parseV s (bytesSum (l.take i)) = .tuple #[blkV b, .int .i64 (bytesSum (l.take (i + 1))), .bool true] := by
  obtain ⟨p, h1, h2, h3, rfl, h5, h6, h7⟩ := h
  rw [← h1, parseV_yes h3, ← h6]
  rfl

end Go.Proofs.Ythemmoecocjpjaa

/- Walks of TouchedBlocks, the program's and the reference's. Conditions: the string's length is below 2^30. -/
namespace Go.Proofs.Ythemmoecocjpjaa
set_option linter.unusedVariables false
set_option linter.unusedSimpArgs false
open Go.RowKit

/-- Whether block number i has data of the range. -/
def hitB (l : List BlkD) (lo hi : Int) (i : Nat) : Bool := decide (sizeSum (l.take i) < hi) && decide (lo < sizeSum (l.take (i + 1))) && decide (lo < hi)
def touchK (l : List BlkD) (lo hi : Int) (k : Nat) : List Int := ((List.range k).filter (hitB l lo hi)).map fun (i : Nat) => (i : Int)
theorem touchK_hit {l : List BlkD} {lo hi : Int} {k : Nat} (h : hitB l lo hi k = true) : touchK l lo hi (k + 1) = touchK l lo hi k ++ [(k : Int)] := by simp [touchK, List.range_succ, List.filter_append, h]
theorem touchK_miss {l : List BlkD} {lo hi : Int} {k : Nat} (h : hitB l lo hi k = false) : touchK l lo hi (k + 1) = touchK l lo hi k := by simp [touchK, List.range_succ, List.filter_append, h]
theorem touchK_length (l : List BlkD) (lo hi : Int) (k : Nat) : (touchK l lo hi k).length ≤ k := by
  have := List.length_filter_le (hitB l lo hi) (List.range k)
  simp [touchK] at *; exact this
def contTouch (s : ByteArray) (lo hi : Int) : List Int := match contBlocks s with | none => [] | some l => touchK l lo hi l.length
theorem hitB_iff {l : List BlkD} {lo hi : Int} {k : Nat} : hitB l lo hi k = true ↔ sizeSum (l.take k) < hi ∧ lo < sizeSum (l.take (k + 1)) ∧ lo < hi := by simp [hitB, and_assoc]
theorem hitB_not {l : List BlkD} {lo hi : Int} {k : Nat} : hitB l lo hi k = false ↔ ¬ (sizeSum (l.take k) < hi ∧ lo < sizeSum (l.take (k + 1)) ∧ lo < hi) := by rw [← hitB_iff]; simp
theorem cellsI_snocT (l : List Int) (x : Int) : cellsI (l ++ [x]) = cellsI l ++ [.int .i64 x] := by simp [cellsI]
theorem oneInt (x : Int) : ∀ u ∈ [Value.int .i64 x], u.oneCell' = true := by
  intro u hu; simp at hu; subst hu; rfl

def RelT (l : List BlkD) (lo hi : Int) (w : World) (v t i : Value) (wr : World) : Prop := ∃ k : Nat, k ≤ l.length ∧ i = .int .i64 k ∧ t = .int .i64 (sizeSum (l.take k)) ∧ wr.ownsRow w.heap.size 3 1 v (touchK l lo hi k).length (cellsI (touchK l lo hi k)) ∧ Up w wr

def TouchPost (s : ByteArray) (lo hi : Int) (w : World) (e : Ending) (w' : World) : Prop := ∃ v, e = .returned v ∧ w'.ownsRow w.heap.size 3 1 v (contTouch s lo hi).length (cellsI (contTouch s lo hi)) ∧ Up w w'

set_option maxRecDepth 100000 in
set_option maxHeartbeats 2000000 in
theorem touchI_any (s : ByteArray) (lo hi : Int) (w : World) (hs : s.size ≤ 1073741824) :
    Calls Try.prog 32 #[.string s, .int .i64 lo, .int .i64 hi] w (TouchPost s lo hi w) := by
  obtain ⟨i0, hi0, hz0, hz1, hz2⟩ := info_parts infoInt
  unfold TouchPost contTouch
  cases hc : contBlocks s with
  | none =>
    have cP := contI_none hc hs
    clear hc
    go_enter Try.func32, Try.ntmps32
    go_wp2_with (go_at_call 22; (with_reducible refine (cP _).mono ?_); rintro e w1 ⟨v, rfl, hown, U1⟩)
    go_ret
    exact ⟨_, rfl, World.ownsRow_nil _ _ _ _, U1⟩
  | some l =>
    have cP := contI_some hc hs
    have hok := contBlocks_ok hc
    have hl40 := hok.1
    clear hc
    go_enter Try.func32, Try.ntmps32
    go_wp2_with (go_at_call 22; (with_reducible refine (cP _).mono ?_); rintro e w1 ⟨v, rfl, hownB, U1⟩; obtain ⟨a, cap, rfl, hm, hsome⟩ := ownsRow_any hownB)
    go_loopw [9, 10, 23] (fun v t i wr => RelT l lo hi w1 v t i wr) (fun _ _ i _ => l.length - (intOf i).toNat)
    case atStart => exact ⟨0, Nat.zero_le _, rfl, rfl, World.ownsRow_nil _ _ _ _, Up.refl _⟩
    case round =>
      obtain ⟨k, hk, rfl, rfl, hown, hup⟩ := hrel
      have htl := touchK_length l lo hi k
      have hsz := hup.size
      have hlen : (l.take k).length ≤ 40 := by simp; omega
      obtain ⟨hb1, hb2⟩ := sizeSum_bd (accOk_take hok k)
      have hb3 : sizeSum (l.take k) ≤ 2560 := by omega
      clear hb2 hlen
      by_cases hlt : k < l.length
      · obtain ⟨g, rfl, hnc, hcm, hbg, hg, hcells⟩ := hsome (by omega)
        obtain ⟨c0, c1, c2, c3⟩ := blk_cells (w := wr) (fun j u hj => (hup.cell (p := ⟨g, j, none⟩) hg).trans (hcells j u hj)) hlt
        obtain ⟨hs1, hs2, _⟩ := (hok.2 l[k] (List.getElem_mem hlt))
        have HS : Hid (sizeSum (l.take (k + 1)) = sizeSum (l.take k) + l[k].size) := sizeSum_take hlt
        clear hcells
        cases hh : hitB l lo hi k
        · have HT := Lib.hid (touchK_miss hh)
          have hh' := hitB_not.1 hh
          rw [HS.out] at hh'
          clear hh
          generalize sizeSum (l.take k) = S at *
          generalize l[k].size = Z at *
          by_cases q1 : S < lo
          all_goals by_cases q2 : hi < S + Z
          all_goals
            first
            | (exfalso; omega)
            | go_wp2
              go_roundw
              case rel => exact ⟨k + 1, by omega, by go_num, by rw [HS.out], by rw [HT.out]; exact hown.alloc _, hup.alloc _⟩
              case measure => simp [intOf]; omega
        · have HT := Lib.hid (touchK_hit hh)
          obtain ⟨q1, q2, q3⟩ := hitB_iff.1 hh
          rw [HS.out] at q2
          clear hh
          generalize sizeSum (l.take k) = S at *
          generalize l[k].size = Z at *
          by_cases r1 : S < lo
          all_goals by_cases r2 : hi < S + Z
          all_goals
            go_wp2_with (at_builtin; refine wpList_append_own _ rfl _ _ 49 rfl w1.heap.size 3 i0 (.int .i64 0) 1 8 Try.underlying49 hi0 hz0 hz1 hz2 rfl (by decide) _ _ _ rfl ((hown.alloc _).alloc _) ⟨wr.heap.size + 1, 0, none⟩ 1 1 [.int .i64 k] rfl rfl (new_cells [.int .i64 k] _ (size_alloc _ _).symm) (oneInt _) (by unfold maxLen; omega) (by omega) (by simp; omega) ?_; rintro v2 w2 hown2 hgr2 -)
            go_roundw
            case rel => exact ⟨k + 1, by omega, by go_num, by rw [HS.out], by rw [HT.out, cellsI_snocT, List.length_append]; exact hown2, ((hup.alloc _).alloc _).grown hgr2 (fun x hx => (hown.lt x hx).1)⟩
            case measure => simp [intOf]; omega
      · have e : k = l.length := by omega
        subst e
        go_wp2
        go_ret
        exact ⟨_, rfl, ownsRow_base hown U1.size, U1.trans hup⟩

def RelU (l : List BlkD) (lo hi : Int) (w : World) (vb vp : Value) (v i : Value) (wr : World) : Prop := ∃ k : Nat, k ≤ l.length ∧ i = .int .i64 k ∧ wr.ownsRow w.heap.size 3 1 v (touchK l lo hi k).length (cellsI (touchK l lo hi k)) ∧ wr.ownsRow 0 24 4 vb l.length (cellsB l) ∧ wr.ownsRow 0 46 2 vp l.length (cellsP (placesK l l.length)) ∧ Up w wr

set_option maxRecDepth 100000 in
set_option maxHeartbeats 4000000 in
theorem touchS_any (s : ByteArray) (lo hi : Int) (w : World) (hs : s.size ≤ 1073741824) :
    Calls Try.prog 34 #[.string s, .int .i64 lo, .int .i64 hi] w (TouchPost s lo hi w) := by
  obtain ⟨i0, hi0, hz0, hz1, hz2⟩ := info_parts infoInt
  unfold TouchPost contTouch
  cases hc : contBlocks s with
  | none =>
    have cP := contS_none hc hs
    clear hc
    go_enter Try.func34, Try.ntmps34
    go_wp2_with (first | (go_at_call 67; (with_reducible refine (cP _).mono ?_); rintro e w1 ⟨v, rfl, hownB, U1⟩; obtain ⟨a, cap, rfl, -, -⟩ := ownsRow_any hownB) | (go_at_call 68; (with_reducible refine (placesS_any [] _ _ _ hownB accOk_nil).mono ?_); rintro e w2 ⟨vp, rfl, hownP, U2⟩))
    go_loopw [7, 11] (fun v i wr => v = .slice (some ⟨w.heap.size, 0, none⟩) 0 0 ∧ i = .int .i64 0 ∧ wr = w2) (fun _ _ _ => 0)
    case atStart => exact ⟨rfl, rfl, rfl⟩
    case round =>
      obtain ⟨rfl, rfl, rfl⟩ := hrel
      go_wp2
      go_ret
      exact ⟨_, rfl, ownsRow_up (ownsRow_up (World.ownsRow_made w #[] 0 (Nat.le_refl _) (by unfold maxLen; omega) rfl) U1) U2, ((Up.refl _).alloc _).trans (U1.trans U2)⟩
  | some l =>
    have cP := contS_some hc hs
    have hok := contBlocks_ok hc
    have hl40 := hok.1
    clear hc
    go_enter Try.func34, Try.ntmps34
    go_wp2_with (first | (go_at_call 67; (with_reducible refine (cP _).mono ?_); rintro e w1 ⟨v, rfl, hownB, U1⟩; obtain ⟨a, cap, rfl, -, -⟩ := ownsRow_any hownB) | (go_at_call 68; (with_reducible refine (placesS_any l _ _ _ hownB hok).mono ?_); rintro e w2 ⟨vp, rfl, hownP, U2⟩; obtain ⟨ap, capp, rfl, -, -⟩ := ownsRow_any hownP))
    go_loopw [7, 11] (fun v i wr => RelU l lo hi w (.slice a l.length cap) (.slice ap l.length capp) v i wr) (fun _ i _ => l.length - (intOf i).toNat)
    case atStart => exact ⟨0, Nat.zero_le _, rfl, ownsRow_up (ownsRow_up (World.ownsRow_made w #[] 0 (Nat.le_refl _) (by unfold maxLen; omega) rfl) U1) U2, ownsRow_up (ownsRow_base hownB (Nat.zero_le _)) U2, ownsRow_base hownP (Nat.zero_le _), ((Up.refl _).alloc _).trans (U1.trans U2)⟩
    case round =>
      obtain ⟨k, hk, rfl, hO, hB, hP, hup⟩ := hrel
      have htl := touchK_length l lo hi k
      have hsz := hup.size
      have hlen : (l.take k).length ≤ 40 := by simp; omega
      obtain ⟨hb1, hb2⟩ := sizeSum_bd (accOk_take hok k)
      have hb3 : sizeSum (l.take k) ≤ 2560 := by omega
      clear hb2 hlen
      by_cases hlt : k < l.length
      · obtain ⟨g, rfl, hnc, hcm, hbg, hg⟩ := ownsRow_slot hB (by omega)
        obtain ⟨gp, rfl, hncp, hcmp, hbgp, hgp⟩ := ownsRow_slot hP (by omega)
        obtain ⟨c0, c1, c2, c3⟩ := blk_cells (w := wr) (fun j u hj => ownsRow_cell hB hj) hlt
        obtain ⟨d0, d1⟩ := plc_cells (w := wr) (fun j u hj => ownsRow_cell hP hj) (placesK_get l l.length k hlt)
        obtain ⟨hs1, hs2, _⟩ := (hok.2 l[k] (List.getElem_mem hlt))
        have HS : Hid (sizeSum (l.take (k + 1)) = sizeSum (l.take k) + l[k].size) := sizeSum_take hlt
        clear c0 c1 c3 d0
        simp only at d1
        cases hh : hitB l lo hi k
        · have HT := Lib.hid (touchK_miss hh)
          have hh' := hitB_not.1 hh
          rw [HS.out] at hh'
          clear hh
          generalize sizeSum (l.take k) = S at *
          generalize l[k].size = Z at *
          by_cases q1 : S < hi
          all_goals by_cases q2 : lo < S + Z
          all_goals by_cases q3 : lo < hi
          all_goals
            first
            | (exfalso; omega)
            | (first | have e1 := decide_eq_true q1 | have e1 := decide_eq_false q1)
              (first | have e2 := decide_eq_true q2 | have e2 := decide_eq_false q2)
              (first | have e3 := decide_eq_true q3 | have e3 := decide_eq_false q3)
              go_wp2
              refine wp_region_up 27 (by kernel_rfl) (by kernel_rfl) ?_
              simp only [List.take, List.drop]
              repeat (refine wpUp_step (fun K hK => ?_); go_simp; (try simp only [↓IntWalk.iteOmega]); first
                | (refine hK _ _ ?_; clear hK K)
                | (apply stepU_c
                   · intro wq hwq; (have hbq := bcell hwq; (repeat (first | refine fills_no (by rfl) ?_ | refine fills_yes (by rfl) (fun vq hvq => ?_))); simp only [List.filter_nil, fills]; unfold upAt; (try ((have x1 := hbq.1 gp (k * 2 + 1) hgp; have x2 := hbq.1 g (k * 4 + 2) hg))); go_simp; (try go_bits); (try simp only [↓IntWalk.iteOmega]); (try (rw [dif_pos (by omega)]; go_simp; try go_bits)); first | exact upOut_value)
                   go_simp; refine hK _ _ ?_; clear hK K))
              refine wpUp_nil (fun wq hwq => ?_)
              simp only [fills]
              go_wp2
              go_roundw
              case rel => exact ⟨k + 1, by omega, by go_num, by rw [HT.out]; exact ownsRow_up hO hwq, ownsRow_up hB hwq, ownsRow_up hP hwq, hup.trans hwq⟩
              case measure => simp [intOf]; omega
        · have HT := Lib.hid (touchK_hit hh)
          obtain ⟨q1, q2, q3⟩ := hitB_iff.1 hh
          rw [HS.out] at q2
          clear hh
          generalize sizeSum (l.take k) = S at *
          generalize l[k].size = Z at *
          go_wp2
          refine wp_region_up 27 (by kernel_rfl) (by kernel_rfl) ?_
          simp only [List.take, List.drop]
          repeat (refine wpUp_step (fun K hK => ?_); go_simp; (try simp only [↓IntWalk.iteOmega]); first
            | (refine hK _ _ ?_; clear hK K)
            | (apply stepU_c
               · intro wq hwq; (have hbq := bcell hwq; (repeat (first | refine fills_no (by rfl) ?_ | refine fills_yes (by rfl) (fun vq hvq => ?_))); simp only [List.filter_nil, fills]; unfold upAt; (try ((have x1 := hbq.1 gp (k * 2 + 1) hgp; have x2 := hbq.1 g (k * 4 + 2) hg))); go_simp; (try go_bits); (try simp only [↓IntWalk.iteOmega]); (try (rw [dif_pos (by omega)]; go_simp; try go_bits)); first | exact upOut_value)
               go_simp; refine hK _ _ ?_; clear hK K))
          refine wpUp_nil (fun wq hwq => ?_)
          simp only [fills]
          have hOq := ownsRow_up hO hwq
          have hBq := ownsRow_up hB hwq
          have hPq := ownsRow_up hP hwq
          have U3 := hup.trans hwq
          go_wp2_with (at_builtin; refine wpList_append_own _ rfl _ _ 49 rfl w.heap.size 3 i0 (.int .i64 0) 1 8 Try.underlying49 hi0 hz0 hz1 hz2 rfl (by decide) _ _ _ rfl (hOq.alloc _) ⟨wq.heap.size, 0, none⟩ 1 1 [.int .i64 k] rfl rfl (new_cells [.int .i64 k] _ rfl) (oneInt _) (by unfold maxLen; omega) (by omega) (by have := U3.size; simp; omega) ?_; rintro v2 w2 hown2 hgr2 -)
          go_roundw
          case rel => exact ⟨k + 1, by omega, by go_num, by rw [HT.out, cellsI_snocT, List.length_append]; exact hown2, (hBq.alloc _).kept hgr2 (ownsRow_ne hBq hOq (by decide)), (hPq.alloc _).kept hgr2 (ownsRow_ne hPq hOq (by decide)), (U3.alloc _).grown hgr2 (fun x hx => (hO.lt x hx).1)⟩
          case measure => simp [intOf]; omega
      · have e : k = l.length := by omega
        subst e
        go_wp2
        go_ret
        exact ⟨_, rfl, hO, hup⟩

end Go.Proofs.Ythemmoecocjpjaa

/- Walks of the laws' own functions on slices: equality. Conditions: the rows can be read. -/
namespace Go.Proofs.Ythemmoecocjpjaa
set_option linter.unusedVariables false
set_option linter.unusedSimpArgs false
open Go.RowKit

theorem int_cells {w : World} {l : List Int} {g : Nat} (hc : ∀ j u, (cellsI l)[j]? = some u → w.cell? ⟨g, j, none⟩ = some u) {k : Nat} (hk : k < l.length) : w.cell? ⟨g, k, none⟩ = some (.int .i64 l[k]) :=
  hc k _ (by simp [cellsI, List.getElem?_eq_getElem hk])

set_option maxRecDepth 100000 in
set_option maxHeartbeats 2000000 in
theorem soPlaces_any (l : List PlaceD) (va vb : Value) (ba bb : Nat) (w : World) (ha : w.ownsRow ba 46 2 va l.length (cellsP l)) (hb : w.ownsRow bb 46 2 vb l.length (cellsP l)) :
    Calls Try.prog 30 #[va, vb] w (Same (.bool true) w) := by
  obtain ⟨a, ca, rfl, hm, -⟩ := ownsRow_any ha
  obtain ⟨b, cb, rfl, -, -⟩ := ownsRow_any hb
  unfold maxLen at hm
  go_enter Try.func30, Try.ntmps30
  go_wp2
  go_loopw [5] (fun i wr => RelE w l.length i wr) (fun i _ => l.length - (intOf i).toNat)
  case atStart => exact ⟨0, Nat.zero_le _, rfl, Up.refl _⟩
  case round =>
    obtain ⟨k, hk, rfl, hup⟩ := hrel
    by_cases hlt : k < l.length
    · obtain ⟨g, rfl, hc1, hc2, -, hg⟩ := ownsRow_slot ha (by omega)
      obtain ⟨g', rfl, hc1', hc2', -, hg'⟩ := ownsRow_slot hb (by omega)
      have hgw := Nat.lt_of_lt_of_le hg hup.size
      have hgw' := Nat.lt_of_lt_of_le hg' hup.size
      have ⟨c0, c1⟩ := plc_cells' (read_cells (ownsRow_up ha hup)) hlt
      have ⟨d0, d1⟩ := plc_cells' (read_cells (ownsRow_up hb hup)) hlt
      go_wp2
      refine wp_region_up 9 (by kernel_rfl) (by kernel_rfl) ?_
      simp only [List.take, List.drop]
      repeat (refine wpUp_step (fun K hK => ?_); go_simp; (try simp only [↓IntWalk.iteOmega]); first
        | (refine hK _ _ ?_; clear hK K)
        | (apply stepU_c
           · intro wq hwq; (have hbq := bcell hwq; (repeat (first | refine fills_no (by rfl) ?_ | refine fills_yes (by rfl) (fun vq hvq => ?_))); simp only [List.filter_nil, fills]; unfold upAt; (try ((have xa0 := (hbq.1 g (k * 2) hgw).trans c0; have xa1 := (hbq.1 g (k * 2 + 1) hgw).trans c1; have xb0 := (hbq.1 g' (k * 2) hgw').trans d0; have xb1 := (hbq.1 g' (k * 2 + 1) hgw').trans d1))); go_simp; (try go_bits); (try simp only [↓IntWalk.iteOmega]); (try (rw [dif_pos (by omega)]; go_simp; try go_bits)); first | exact upOut_value)
           go_simp; refine hK _ _ ?_; clear hK K))
      refine wpUp_nil (fun wq hwq => ?_)
      simp only [fills]
      go_wp2
      go_roundw
      case rel => exact ⟨k + 1, by omega, by go_num, hup.trans hwq⟩
      case measure => simp [intOf]; omega
    · go_wp2
      go_ret
      exact ⟨rfl, hup⟩

set_option maxRecDepth 100000 in
set_option maxHeartbeats 2000000 in
theorem soBlocks_any (l : List BlkD) (va vb : Value) (ba bb : Nat) (w : World) (ha : w.ownsRow ba 24 4 va l.length (cellsB l)) (hb : w.ownsRow bb 24 4 vb l.length (cellsB l)) :
    Calls Try.prog 24 #[va, vb] w (Same (.bool true) w) := by
  obtain ⟨a, ca, rfl, hm, -⟩ := ownsRow_any ha
  obtain ⟨b, cb, rfl, -, -⟩ := ownsRow_any hb
  unfold maxLen at hm
  go_enter Try.func24, Try.ntmps24
  go_wp2
  go_loopw [5] (fun i wr => RelE w l.length i wr) (fun i _ => l.length - (intOf i).toNat)
  case atStart => exact ⟨0, Nat.zero_le _, rfl, Up.refl _⟩
  case round =>
    obtain ⟨k, hk, rfl, hup⟩ := hrel
    by_cases hlt : k < l.length
    · obtain ⟨g, rfl, hc1, hc2, -, hg⟩ := ownsRow_slot ha (by omega)
      obtain ⟨g', rfl, hc1', hc2', -, hg'⟩ := ownsRow_slot hb (by omega)
      have hgw := Nat.lt_of_lt_of_le hg hup.size
      have hgw' := Nat.lt_of_lt_of_le hg' hup.size
      have ⟨c0, c1, c2, c3⟩ := blk_cells (read_cells (ownsRow_up ha hup)) hlt
      have ⟨d0, d1, d2, d3⟩ := blk_cells (read_cells (ownsRow_up hb hup)) hlt
      go_wp2
      refine wp_region_up 9 (by kernel_rfl) (by kernel_rfl) ?_
      simp only [List.take, List.drop]
      repeat (refine wpUp_step (fun K hK => ?_); go_simp; (try simp only [↓IntWalk.iteOmega]); first
        | (refine hK _ _ ?_; clear hK K)
        | (apply stepU_c
           · intro wq hwq; (have hbq := bcell hwq; (repeat (first | refine fills_no (by rfl) ?_ | refine fills_yes (by rfl) (fun vq hvq => ?_))); simp only [List.filter_nil, fills]; unfold upAt; (try ((have xa0 := (hbq.1 g (k * 4) hgw).trans c0; have xa1 := (hbq.1 g (k * 4 + 1) hgw).trans c1; have xa2 := (hbq.1 g (k * 4 + 2) hgw).trans c2; have xa3 := (hbq.1 g (k * 4 + 3) hgw).trans c3; have xb0 := (hbq.1 g' (k * 4) hgw').trans d0; have xb1 := (hbq.1 g' (k * 4 + 1) hgw').trans d1; have xb2 := (hbq.1 g' (k * 4 + 2) hgw').trans d2; have xb3 := (hbq.1 g' (k * 4 + 3) hgw').trans d3))); go_simp; (try go_bits); (try simp only [↓IntWalk.iteOmega]); (try (rw [dif_pos (by omega)]; go_simp; try go_bits)); first | exact upOut_value)
           go_simp; refine hK _ _ ?_; clear hK K))
      refine wpUp_nil (fun wq hwq => ?_)
      simp only [fills]
      go_wp2
      go_roundw
      case rel => exact ⟨k + 1, by omega, by go_num, hup.trans hwq⟩
      case measure => simp [intOf]; omega
    · go_wp2
      go_ret
      exact ⟨rfl, hup⟩

set_option maxRecDepth 100000 in
set_option maxHeartbeats 2000000 in
theorem soInts_any (l : List Int) (va vb : Value) (ba bb : Nat) (w : World) (ha : w.ownsRow ba 3 1 va l.length (cellsI l)) (hb : w.ownsRow bb 3 1 vb l.length (cellsI l)) :
    Calls Try.prog 33 #[va, vb] w (Same (.bool true) w) := by
  obtain ⟨a, ca, rfl, hm, -⟩ := ownsRow_any ha
  obtain ⟨b, cb, rfl, -, -⟩ := ownsRow_any hb
  unfold maxLen at hm
  go_enter Try.func33, Try.ntmps33
  go_wp2
  go_loopw [5] (fun i wr => RelE w l.length i wr) (fun i _ => l.length - (intOf i).toNat)
  case atStart => exact ⟨0, Nat.zero_le _, rfl, Up.refl _⟩
  case round =>
    obtain ⟨k, hk, rfl, hup⟩ := hrel
    by_cases hlt : k < l.length
    · obtain ⟨g, rfl, hc1, hc2, -, hg⟩ := ownsRow_slot ha (by omega)
      obtain ⟨g', rfl, hc1', hc2', -, hg'⟩ := ownsRow_slot hb (by omega)
      have hgw := Nat.lt_of_lt_of_le hg hup.size
      have hgw' := Nat.lt_of_lt_of_le hg' hup.size
      have c0 := int_cells (read_cells (ownsRow_up ha hup)) hlt
      have d0 := int_cells (read_cells (ownsRow_up hb hup)) hlt
      go_wp2
      refine wp_region_up 9 (by kernel_rfl) (by kernel_rfl) ?_
      simp only [List.take, List.drop]
      repeat (refine wpUp_step (fun K hK => ?_); go_simp; (try simp only [↓IntWalk.iteOmega]); first
        | (refine hK _ _ ?_; clear hK K)
        | (apply stepU_c
           · intro wq hwq; (have hbq := bcell hwq; (repeat (first | refine fills_no (by rfl) ?_ | refine fills_yes (by rfl) (fun vq hvq => ?_))); simp only [List.filter_nil, fills]; unfold upAt; (try ((have xa0 := (hbq.1 g (k) hgw).trans c0; have xb0 := (hbq.1 g' (k) hgw').trans d0))); go_simp; (try go_bits); (try simp only [↓IntWalk.iteOmega]); (try (rw [dif_pos (by omega)]; go_simp; try go_bits)); first | exact upOut_value)
           go_simp; refine hK _ _ ?_; clear hK K))
      refine wpUp_nil (fun wq hwq => ?_)
      simp only [fills]
      go_wp2
      go_roundw
      case rel => exact ⟨k + 1, by omega, by go_num, hup.trans hwq⟩
      case measure => simp [intOf]; omega
    · go_wp2
      go_ret
      exact ⟨rfl, hup⟩

end Go.Proofs.Ythemmoecocjpjaa
