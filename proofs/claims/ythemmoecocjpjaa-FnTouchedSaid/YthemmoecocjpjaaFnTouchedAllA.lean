/- Texts joined into one: the walks and laws that the last text leans on. Conditions: as each says. -/
import Derived.Test.YthemmoecocjpjaaUp
import Derived.Test.YthemmoecocjpjaaDraw8
import Derived.Test.YthemmoecocjpjaaMarks
import Derived.Test.YthemmoecocjpjaaCont4
import Derived.Test.YthemmoecocjpjaaPlaces
import Derived.Test.YthemmoecocjpjaaEqs

/- The end of every law's row: the call answers true and nothing that was there has turned. Conditions: those of post_law. -/
namespace Go.Proofs.Ythemmoecocjpjaa
set_option linter.unusedVariables false
set_option linter.unusedSimpArgs false
open Go.ChangeShapes Go.WideShapes Go.ChangeAt Go.RowKit

theorem TrylaidOut : laidOutB Try.prog = true := by kernel_rfl
theorem own : ownKnob Try.prog.godebug = none := by kernel_rfl

theorem trodAll_up {H : Type} {enc : TypeId × Value → H} {P : Program} (hl : laidOutB P = true) {W W' : World} (hb : Below W.heap.size W W') : ∀ (ts : List TypeId) (vs : List Value) (ds : List (DataW H)) (ps : List MemPlace),
    (∀ t ∈ ts, P.readableRec t = true ∧ t < P.types.size) → (∀ x ∈ ps, x.block < W.heap.size) → DataW.TrodAll enc P W 0 (fun _ => true) true ts vs ds ps → DataW.TrodAll enc P W' 0 (fun b => decide (b < W.heap.size)) true ts vs ds ps
  | [], [], [], _, _, _, h => h
  | t :: ts, v :: vs, d :: ds, ps, ht, hp, h => by
    obtain ⟨p, q, h1, h2, rfl⟩ := h
    refine ⟨p, q, Below.trod hl (ht t (List.mem_cons_self ..)).1 (ht t (List.mem_cons_self ..)).2 h1 hb fun x hx => hp x (List.mem_append_left _ hx), ?_, rfl⟩
    exact trodAll_up hl hb ts vs ds q (fun t h => ht t (List.mem_cons_of_mem _ h)) (fun x hx => hp x (List.mem_append_right _ hx)) h2
  | [], _ :: _, _, _, _, _, h => h.elim
  | _ :: _, [], _, _, _, _, h => h.elim
  | [], [], _ :: _, _, _, _, h => h.elim
  | _ :: _, _ :: _, [], _, _, _, h => h.elim

theorem post_law {H : Type} {enc : TypeId × Value → H} {P : Program} {f : Func} {s : ChangeSpec} {W W' : World} {args : Array Value} {ds gs : List (DataW H)} {before : List MemPlace} {tb : TypeId}
    (hl : laidOutB P = true) (hp : (f.params.all fun t => P.readableRec t && decide (t < P.types.size)) = true) (hrt : f.resultTypes = #[tb]) (htb : P.underlying tb = some .bool) (hvars : s.vars = [])
    (hW : DataW.Whole enc P f.params.toList s.vars false W args.toList ds gs before) (hs : ∀ ds' : List (DataW H), ds' = ds → (s.fn H ds').results = [.lit (.bool true)] ∧ (s.fn H ds').args = ds ∧ (s.fn H ds').vars = []) (hb : Up W W') :
    s.post enc P f false true false false W args (.bool true) W' := by
  have hlt := fun p hp => hW.lt (p := p) hp
  obtain ⟨p, q, hA, hV, rfl, hz, hn⟩ := id hW
  rw [hvars] at hV
  obtain ⟨rfl, rfl⟩ := trodVars_none hV
  obtain ⟨e1, e2, e3⟩ := hs (ds ++ []) (by simp)
  refine ⟨ds, [], p ++ [], [], p, [], hW, ?_, ?_, ?_, ?_, fun h => by cases h⟩
  · rw [e1, hrt]
    exact trodAll_mk1 (shut_bool htb true)
  · rw [e2]
    refine trodAll_up hl hb _ _ _ _ (fun t ht => ?_) (fun x hx => hlt x (by simpa using hx)) hA
    have := Array.all_eq_true_iff_forall_mem.1 hp t (by simpa using ht)
    simpa using this
  · rw [e3, hvars]
    rfl
  · exact hb.frame _

end Go.Proofs.Ythemmoecocjpjaa

/- Arguments that are slices of bytes, and a string repeated. Conditions: as each says. -/
namespace Go.Proofs.Ythemmoecocjpjaa
set_option linter.unusedVariables false
set_option linter.unusedSimpArgs false
open Go.ChangeShapes Go.WideShapes Go.ChangeAt Go.RowKit Go.Joins
open Go.ChangeMaps (open_string shut_string)

theorem open_argU {H : Type} {enc : TypeId × Value → H} {W : World} {fuel : Nat} {a0 : Option Addr} {len cap : Nat} {d : DataW H} {p : List MemPlace}
    (h : DataW.trod enc Try.prog W 0 (fun _ => true) true fuel 22 [.slice a0 len cap] = some (d, p)) (hlt : ∀ x ∈ p, x.block < W.heap.size) : ∃ l, ArgU W (.slice a0 len cap) l := by
  rcases open_ints Try.underlying22 Try.underlying5 (by kernel_rfl) h with ⟨hcs, hx⟩ | ⟨a, len', cap', zs, hcs, _, hl, hm, hz, hx, hcell, hwz⟩
  · simp only [List.cons.injEq, and_true] at hcs
    cases hcs
    exact ⟨[], none, 0, rfl, Nat.le_refl _, by unfold maxLen; omega, fun h => absurd h (Nat.lt_irrefl _)⟩
  · simp only [List.cons.injEq, and_true] at hcs
    cases hcs
    simp only [Prod.mk.injEq] at hx
    obtain ⟨rfl, rfl⟩ := hx
    simp only [if_true] at hz
    have hlen : ((zs.take len).map fun n => UInt8.ofNat n.toNat).length = len := by simp; omega
    refine ⟨(zs.take len).map fun n => UInt8.ofNat n.toNat, some a, cap, by rw [hlen], by rw [hlen]; exact hl, hm, fun hp => ?_⟩
    rw [hlen] at hp
    obtain ⟨b, off, spot⟩ := a
    have hspot : spot = none := by simpa [Addr.add] using World.cell?_spot (hcell 0 (by omega))
    subst hspot
    refine ⟨b, off, rfl, hlt (.cell b off) (by simp only [MemPlace.row, List.mem_map, List.mem_range]; exact ⟨0, by omega, rfl⟩), fun i x hi => ?_⟩
    have hil : i < len := by
      have := (List.getElem?_eq_some_iff.1 hi).1
      rw [hlen] at this; exact this
    have hcj := hcell i (by omega)
    rw [Addr.add_lit] at hcj
    rw [hcj]
    have hb := range_u8 hwz i
    have e : zs.getD i 0 = zs[i]'(by omega) := by simp [List.getD, List.getElem?_eq_getElem (show i < zs.length by omega)]
    rw [List.getD_eq_getElem?_getD] at e ⊢
    rw [e] at hb ⊢
    have hx : x = UInt8.ofNat (zs[i]'(by omega)).toNat := by
      have : i < zs.length := by omega
      simp [List.getElem?_take, hil, this] at hi
      exact hi.symm
    rw [hx]
    congr 2
    simp only [UInt8.toNat_ofNat']
    omega

def RelSM (s : ByteArray) (n : Nat) (w : World) (out i : Value) (wr : World) : Prop := ∃ k : Nat, k ≤ n ∧ i = .int .i64 k ∧ out = .string (bs (rep k s.data.toList)) ∧ w = wr
theorem rep_snoc (n : Nat) (l : List UInt8) : rep n l ++ l = rep (n + 1) l := by
  induction n with
  | zero => simp [rep]
  | succ n ih => rw [rep_succ n, List.append_assoc, ih, rep_succ (n + 1)]

set_option maxRecDepth 100000 in
set_option maxHeartbeats 1000000 in
theorem soMany_any (s : ByteArray) (n : Nat) (m : Int) (hm : m = n) (w : World) (hn : n ≤ 1000) (hs : s.size ≤ 1000) :
    Calls Try.prog 18  #[.string s, .int .i64 m] w (fun e w' => e = .returned (.string (bs (rep n s.data.toList))) ∧ w = w') := by
  subst hm
  have hsl := ba_len s
  go_enter Try.func18, Try.ntmps18
  go_wp2
  go_loopw [5, 6] (fun out i wr => RelSM s n w out i wr) (fun _ i _ => n - (intOf i).toNat)
  case atStart => exact ⟨0, Nat.zero_le _, rfl, rfl, rfl⟩
  case round =>
    obtain ⟨k, hk, rfl, rfl, rfl⟩ := hrel
    have hz := bs_size (rep k s.data.toList)
    rw [rep_length, hsl] at hz
    have hz2 : (bs (rep k s.data.toList)).size ≤ 1000000 := by
      rw [hz]; exact Nat.le_trans (Nat.mul_le_mul (Nat.le_trans hk hn) hs) (by decide)
    have HE : Hid (bs (rep k s.data.toList) ++ s = bs (rep (k + 1) s.data.toList)) := by
      unfold Hid
      conv => lhs; arg 2; rw [← bs_self s]
      rw [bs_app, rep_snoc]
    by_cases hlt : k < n
    · clear hz
      go_wp2
      go_roundw
      case rel => exact ⟨k + 1, by omega, by go_num, congrArg Value.string HE.out, rfl⟩
      case measure => simp [intOf]; omega
    · have e : k = n := by omega
      subst e
      clear hz
      go_wp2
      go_ret
      exact ⟨rfl, rfl⟩

theorem soMany_one (s : ByteArray) (n : Nat) (m : Int) (hm : m = n) (w : World) (hn : n ≤ 1000) (hs : s.size = 1) :
    Calls Try.prog 18  #[.string s, .int .i64 m] w (fun e w' => ∃ A : ByteArray, e = .returned (.string A) ∧ A.size = n ∧ w = w') :=
  (soMany_any s n m hm w hn (by omega)).mono fun e w' ⟨he, hw⟩ => ⟨_, he, by rw [bs_size, rep_length, ba_len, hs, Nat.mul_one], hw⟩

end Go.Proofs.Ythemmoecocjpjaa

/- Walks of IndexOf, the program's and the reference's. Conditions: the string's length is below 2^30. -/
namespace Go.Proofs.Ythemmoecocjpjaa
set_option linter.unusedVariables false
set_option linter.unusedSimpArgs false
open Go.RowKit

def midQ (l : List BlkD) (k : Nat) : List PlaceD := placesK l k ++ List.replicate (l.length - k) ⟨0, 0⟩
theorem midQ_all (l : List BlkD) : midQ l l.length = placesK l l.length := by simp [midQ]
theorem midQ_at (l : List BlkD) (k : Nat) (h : k < l.length) : (midQ l k)[k]? = some ⟨0, 0⟩ := by
  rw [midQ, List.getElem?_append_right (by rw [placesK_length]; exact Nat.le_refl _), placesK_length, Nat.sub_self, List.getElem?_replicate, if_pos (by omega)]
theorem midQ_set (l : List BlkD) (k : Nat) (h : k < l.length) : ((cellsP (midQ l k)).set (k * 2) (.int .i64 (bytesSum (l.take k)))).set (k * 2 + 1) (.int .i64 (sizeSum (l.take k))) = cellsP (midQ l (k + 1)) := by
  have e : List.replicate (l.length - k) (⟨0, 0⟩ : PlaceD) = ⟨0, 0⟩ :: List.replicate (l.length - (k + 1)) ⟨0, 0⟩ := by
    rw [show l.length - k = (l.length - (k + 1)) + 1 by omega]; rfl
  rw [midQ, midQ, e, placesK_succ]
  simp only [cellsP, List.flatMap_append, List.flatMap_cons, List.flatMap_nil, List.append_nil, List.append_assoc]
  exact set2 _ _ _ _ _ _ _ (by have := cellsP_length (placesK l k); rw [placesK_length] at this; exact this)
theorem cellsP_zero (n : Nat) : cellsP (List.replicate n ⟨0, 0⟩) = List.replicate (n * 2) (.int .i64 0) := by
  induction n with
  | zero => rfl
  | succ n ih =>
    rw [List.replicate_succ]
    show plcC ⟨0, 0⟩ ++ cellsP (List.replicate n ⟨0, 0⟩) = _
    rw [ih, show (n + 1) * 2 = n * 2 + 1 + 1 by omega, List.replicate_succ, List.replicate_succ]; rfl
theorem made_zero (m : Nat) : (madeCells #[.int .i64 0, .int .i64 0] m).toList = List.replicate m (.int .i64 0) := by
  rw [List.eq_replicate_iff]
  refine ⟨by simp [madeCells], fun b hb => ?_⟩
  simp only [madeCells, Array.toList_map, List.mem_map] at hb
  obtain ⟨i, _, rfl⟩ := hb
  have : i % 2 = 0 ∨ i % 2 = 1 := by omega
  rcases this with e | e <;> simp [e]
theorem made_row (w : World) (base n : Nat) (hb : base ≤ w.heap.size) (hm : n ≤ maxLen) : (w.alloc (.cells (madeCells #[.int .i64 0, .int .i64 0] (n * 2)) 46)).ownsRow base 46 2 (.slice (some ⟨w.heap.size, 0, none⟩) n n) n (cellsP (List.replicate n ⟨0, 0⟩)) := by
  refine ⟨by rw [cellsP_zero]; simp, .inr ⟨_, _, _, rfl, hb, (MapKept.heap_alloc w _).1, Nat.le_refl _, hm, by simp [madeCells], ?_⟩⟩
  rw [made_zero, cellsP_zero, List.take_of_length_le (by simp)]
theorem ownsRow_other {w : World} {base : Nat} {e : TypeId} {size n : Nat} {xs : List Value} {g cap : Nat} (h : w.ownsRow base e size (.slice (some ⟨g, 0, none⟩) n cap) n xs) {p : Addr} (hp : g ≠ p.block) (u : Value) : (w.setCell p u).ownsRow base e size (.slice (some ⟨g, 0, none⟩) n cap) n xs := by
  refine ⟨h.1, ?_⟩
  rcases h.2 with ⟨hn, _⟩ | ⟨g', cap', cur, hv, hb, hg, rest⟩
  · cases hn
  · cases hv
    exact .inr ⟨g, cap, cur, rfl, hb, by rw [Below.heap_setCell _ _ _ _ hp]; exact hg, rest⟩
theorem box_other {w : World} {b : Nat} {o : Obj} (h : w.heap[b]? = some o) {p : Addr} (hp : b ≠ p.block) (u : Value) : (w.setCell p u).heap[b]? = some o := by
  rw [Below.heap_setCell _ _ _ _ hp]; exact h

/-- What IndexOf leaves. -/
def IndexPost (s : ByteArray) (w : World) (e : Ending) (w' : World) : Prop := ∃ v, e = .returned (.tuple #[v, .bool (contBlocks s).isSome]) ∧ w'.ownsRow w.heap.size 46 2 v (placesK ((contBlocks s).getD []) ((contBlocks s).getD []).length).length (cellsP (placesK ((contBlocks s).getD []) ((contBlocks s).getD []).length)) ∧ Up w w'

def RelI (l : List BlkD) (w1 : World) (i : Value) (wr : World) : Prop := ∃ k : Nat, k ≤ l.length ∧ i = .int .i64 k ∧ Up w1 wr ∧ wr.ownsRow w1.heap.size 46 2 (.slice (some ⟨w1.heap.size, 0, none⟩) l.length l.length) l.length (cellsP (midQ l k)) ∧ wr.heap[w1.heap.size + 1]? = some (.cells #[.int .i64 (bytesSum (l.take k)), .int .i64 (sizeSum (l.take k))] 46)

set_option maxRecDepth 100000 in
set_option maxHeartbeats 2000000 in
theorem indexI_any (s : ByteArray) (w : World) (hs : s.size ≤ 1073741824) :
    Calls Try.prog 28 #[.string s] w (IndexPost s w) := by
  obtain ⟨i0, hi0, hz0, hz1, hz2⟩ := info_parts infoPlace
  unfold IndexPost
  cases hc : contBlocks s with
  | none =>
    have cP := contI_none hc hs
    clear hc
    go_enter Try.func28, Try.ntmps28
    go_wp2_with (go_at_call 22; (with_reducible refine (cP _).mono ?_); rintro e w1 ⟨v, rfl, hown, U1⟩)
    go_ret2
    exact ⟨_, rfl, World.ownsRow_nil _ _ _ _, U1⟩
  | some l =>
    have cP := contI_some hc hs
    have hok := contBlocks_ok hc
    have hl40 := hok.1
    clear hc
    have hmk : ∀ w : World, (Instr.makeSlice 41 (.int .i64 (l.length : Int)) (.int .i64 (l.length : Int))).run Try.prog w = .ok (.slice (some ⟨w.heap.size, 0, none⟩) l.length l.length) (w.alloc (.cells (madeCells #[.int .i64 0, .int .i64 0] (l.length * 2)) 46)) := fun w => by
      have := run_make (P := Try.prog) w 41 46 i0 _ Try.underlying41 hi0 hz0 .i64 .i64 l.length l.length (by omega) (Int.le_refl _) (by rw [hz2]; omega) (by omega)
      rw [hz1] at this
      simpa [Value.cells] using this
    clear hz0 hz1 hz2 hi0
    go_enter Try.func28, Try.ntmps28
    go_wp2_with (go_at_call 22; (with_reducible refine (cP _).mono ?_); rintro e w1 ⟨v, rfl, hownB, U1⟩; obtain ⟨a, cap, rfl, hm, hsome⟩ := ownsRow_any hownB)
    go_loopw [23] (fun i wr => RelI l w1 i wr) (fun i _ => l.length - (intOf i).toNat)
    case atStart => exact ⟨0, Nat.zero_le _, rfl, ((Up.refl _).alloc _).alloc _, by simpa [midQ, placesK] using (made_row w1 w1.heap.size l.length (Nat.le_refl _) hm).alloc _, by simpa [bytesSum, sizeSum] using (MapKept.heap_alloc (w1.alloc (.cells (madeCells #[.int .i64 0, .int .i64 0] (l.length * 2)) 46)) _).1⟩
    case round =>
      obtain ⟨k, hk, rfl, hup, ho, hbx⟩ := hrel
      have hsz := hup.size
      have hlen : (l.take k).length ≤ 40 := by simp; omega
      obtain ⟨hb1, hb2⟩ := sizeSum_bd (accOk_take hok k)
      obtain ⟨hd1, hd2⟩ := bytesSum_bd (accOk_take hok k)
      have hb3 : sizeSum (l.take k) ≤ 2560 := by omega
      have hd3 : bytesSum (l.take k) ≤ 2960 := by omega
      clear hb2 hd2 hlen
      by_cases hlt : k < l.length
      · obtain ⟨g, rfl, hnc, hcm, hbg, hg, hcells⟩ := hsome (by omega)
        obtain ⟨c0, c1, c2, c3⟩ := blk_cells (w := wr) (fun j u hj => (hup.cell (p := ⟨g, j, none⟩) hg).trans (hcells j u hj)) hlt
        obtain ⟨d0, d1⟩ := plc_cells (read_cells ho) (midQ_at l k hlt)
        have f0 := ownsRow_free ho (k * 2)
        have f1 := ownsRow_free ho (k * 2 + 1)
        have n0 := box_cell hbx 0
        have n1 := box_cell hbx 1
        have m0 := box_free hbx 0
        have m1 := box_free hbx 1
        simp at n0 n1
        obtain ⟨hs1, hs2, hs3⟩ := (hok.2 l[k] (List.getElem_mem hlt))
        have HS : Hid (sizeSum (l.take (k + 1)) = sizeSum (l.take k) + l[k].size) := sizeSum_take hlt
        have HD : Hid (bytesSum (l.take (k + 1)) = bytesSum (l.take k) + 10 + l[k].body.size) := bytesSum_take hlt
        have hrl : w1.heap.size < wr.heap.size := (ho.lt _ rfl).2
        have hnl : w1.heap.size + 1 < wr.heap.size := (Array.getElem?_eq_some_iff.1 hbx).1
        have HM := Lib.hid (midQ_set l k hlt)
        have hgne : g ≠ w1.heap.size := by omega
        clear hcells
        go_wp2
        go_roundw
        case rel =>
          refine ⟨k + 1, by omega, by go_num, ((((hup.set (p := ⟨w1.heap.size, k * 2, none⟩) (Nat.le_refl _) _).set (p := ⟨w1.heap.size, k * 2 + 1, none⟩) (Nat.le_refl _) _).set (p := ⟨w1.heap.size + 1, 0, none⟩) (Nat.le_succ _) _).set (p := ⟨w1.heap.size + 1, 1, none⟩) (Nat.le_succ _) _).alloc _, ?_, ?_⟩
          · rw [← HM.out]
            exact (ownsRow_other (ownsRow_other (ownsRow_set (ownsRow_set ho (k * 2) _) (k * 2 + 1) _) (p := ⟨w1.heap.size + 1, 0, none⟩) (Nat.ne_of_lt (Nat.lt_succ_self _)) _) (p := ⟨w1.heap.size + 1, 1, none⟩) (Nat.ne_of_lt (Nat.lt_succ_self _)) _).alloc _
          · rw [HD.out, HS.out, Int.add_assoc]
            exact box_up ((Up.refl _).alloc _) (box_set (box_set (box_other (box_other hbx (p := ⟨w1.heap.size, k * 2, none⟩) (Nat.ne_of_gt (Nat.lt_succ_self _)) _) (p := ⟨w1.heap.size, k * 2 + 1, none⟩) (Nat.ne_of_gt (Nat.lt_succ_self _)) _) 0 _) 1 _)
        case measure => simp [intOf]; omega
      · have e : k = l.length := by omega
        subst e
        rw [midQ_all] at ho
        go_wp2
        go_ret2
        refine ⟨_, rfl, ?_, U1.trans hup⟩
        simp only [Option.getD_some, placesK_length]
        exact ownsRow_base ho U1.size

set_option maxRecDepth 100000 in
set_option maxHeartbeats 2000000 in
theorem indexS_any (s : ByteArray) (w : World) (hs : s.size ≤ 1073741824) :
    Calls Try.prog 29 #[.string s] w (IndexPost s w) := by
  unfold IndexPost
  cases hc : contBlocks s with
  | none =>
    have cP := contS_none hc hs
    clear hc
    go_enter Try.func29, Try.ntmps29
    go_wp2_with (go_at_call 67; (with_reducible refine (cP _).mono ?_); rintro e w1 ⟨v, rfl, hown, U1⟩)
    go_ret2
    exact ⟨_, rfl, World.ownsRow_made w1 #[] 0 U1.size (by unfold maxLen; omega) rfl, U1.alloc _⟩
  | some l =>
    have cP := contS_some hc hs
    have hok := contBlocks_ok hc
    clear hc
    go_enter Try.func29, Try.ntmps29
    go_wp2_with (first | (go_at_call 67; (with_reducible refine (cP _).mono ?_); rintro e w1 ⟨v, rfl, hownB, U1⟩) | (go_at_call 68; (with_reducible refine (placesS_any l _ _ _ hownB hok).mono ?_); rintro e w2 ⟨vp, rfl, hownP, U2⟩))
    go_ret2
    refine ⟨_, rfl, ?_, U1.trans U2⟩
    simp only [Option.getD_some, placesK_length]
    exact ownsRow_base hownP U1.size

end Go.Proofs.Ythemmoecocjpjaa

/- Walks of the reference's draws of strings, places and ranges, from the bytes of an input. Conditions: the bytes can be read. -/
namespace Go.Proofs.Ythemmoecocjpjaa
set_option linter.unusedVariables false
set_option linter.unusedSimpArgs false
open Go Go.RowKit

set_option maxRecDepth 100000 in
set_option maxHeartbeats 4000000 in
theorem drawContainerBlocks_any (v : Value) (l : List UInt8) (w : World) (h : ArgU w v l) :
    Calls Try.prog 21  #[v] w (fun e w' => ∃ s : ByteArray, e = .returned (.string s) ∧ s.size ≤ 10002 ∧ Up w w') := by
  have cO := fun w' hu => open_at (h.up (w' := w') hu)
  clear h
  go_enter Try.func21, Try.ntmps21
  go_wp2_with (go_at_call 60; (with_reducible refine (cO _ (by (repeat (first | with_reducible exact Up.refl _ | with_reducible assumption | with_reducible refine Up.set ?_ (by first | exact Nat.le_refl _ | (simp only []; omega) | (simp; omega)) _ | with_reducible refine Up.alloc ?_ _ | with_reducible refine Up.drew ?_ | refine Up.trans ?_ (by with_reducible assumption))))).mono ?_); rintro e w1 ⟨B, rfl, hr, hUp⟩)
  obtain ⟨p, hp, hr, HM⟩ := hr.least
  have hlt := hr.lt
  have HR := Lib.hid hr
  have hU := RdUp.refl w.heap.size B 0 w1
  have cS := fun wx N h hN => l5Some_any w.heap.size B wx N h hN
  have hne0 : ¬ w1.heap.size = w.heap.size := by omega
  clear cO
  go_wp2_with ((go_at_call 61; ((with_reducible refine (draw_atM (cS) HR.out hU (by intro c hU; (repeat (first | with_reducible assumption | refine RdUp.ups ?_ (by with_reducible assumption) | with_reducible refine RdUp.set ?_ (by first | exact Nat.le_refl _ | (simp only []; omega) | (simp; omega)) _ | with_reducible refine RdUp.alloc ?_ _ | with_reducible refine RdUp.drew ?_ | with_reducible exact RdUp.of (Up.refl _)))) (by omega)).mono ?_); rintro e w' ⟨v, rfl, ⟨s, dict, st, rfl, hs, hdi, hst⟩, hU, U⟩; have D := gcell U.1; have Z := U.1.size; (try simp at Z); (try have Y0 : w.heap.size < w'.heap.size := (by omega)); (try have Y1 : w.heap.size + 1 < w'.heap.size := (by omega)); (try have Y2 : w.heap.size + 1 + 1 < w'.heap.size := (by omega)); (try have X0 : w.heap.size < w'.heap.size + 1 := (by omega)); (try have X1 : w.heap.size + 1 < w'.heap.size + 1 := (by omega)); (try have X2 : w.heap.size + 1 + 1 < w'.heap.size + 1 := (by omega)))))
  have cB := fun wx N h hN => l5Bad_any w.heap.size B st wx N h hN hst
  clear D Z
  go_wp2_with ((go_at_call 64; ((with_reducible refine (draw_atM (cB) HR.out hU (by intro c hU; (repeat (first | with_reducible assumption | refine RdUp.ups ?_ (by with_reducible assumption) | with_reducible refine RdUp.set ?_ (by first | exact Nat.le_refl _ | (simp only []; omega) | (simp; omega)) _ | with_reducible refine RdUp.alloc ?_ _ | with_reducible refine RdUp.drew ?_ | with_reducible exact RdUp.of (Up.refl _)))) (by omega)).mono ?_); rintro e w' ⟨v, rfl, ⟨st2, rfl, hst2⟩, hU, U⟩; have D := gcell U.1; have Z := U.1.size; (try simp at Z); (try have Y0 : w.heap.size < w'.heap.size := (by omega)); (try have Y1 : w.heap.size + 1 < w'.heap.size := (by omega)); (try have Y2 : w.heap.size + 1 + 1 < w'.heap.size := (by omega)); (try have X0 : w.heap.size < w'.heap.size + 1 := (by omega)); (try have X1 : w.heap.size + 1 < w'.heap.size + 1 := (by omega)); (try have X2 : w.heap.size + 1 + 1 < w'.heap.size + 1 := (by omega)))))
  go_ret
  exact ⟨st2, rfl, hst2, up_grownR hUp hU.1 (Nat.le_refl _)⟩

set_option maxRecDepth 100000 in
set_option maxHeartbeats 1000000 in
theorem drawIndexOf_any (v : Value) (l : List UInt8) (w : World) (h : ArgU w v l) :
    Calls Try.prog 27  #[v] w (fun e w' => ∃ s : ByteArray, e = .returned (.string s) ∧ s.size ≤ 10002 ∧ Up w w') := by
  have cO := fun w' hu => drawContainerBlocks_any v l w' (h.up (w' := w') hu)
  clear h
  go_enter Try.func27, Try.ntmps27
  go_wp2_with (go_at_call 21; (with_reducible refine (cO _ (by (repeat (first | with_reducible exact Up.refl _ | with_reducible assumption | with_reducible refine Up.set ?_ (by first | exact Nat.le_refl _ | (simp only []; omega) | (simp; omega)) _ | with_reducible refine Up.alloc ?_ _ | with_reducible refine Up.drew ?_ | refine Up.trans ?_ (by with_reducible assumption))))).mono ?_); rintro e w1 ⟨s, rfl, hs, U1⟩)
  go_ret
  exact ⟨s, rfl, hs, U1⟩

def isInts2 (v : Value) : Prop := ∃ a b : Int, v = .tuple #[.int .i64 a, .int .i64 b]

set_option maxRecDepth 100000 in
set_option maxHeartbeats 4000000 in
theorem l5Range_any (rb : Nat) (B : Value) (n : Int) (w : World) (N : Nat) (h : Rdr rb B w N) (hN : N ≤ 700000000) (hn : n ≤ 100000) (hn0 : -100000 ≤ n) :
    Calls Try.prog 69  #[.pointer (some ⟨rb, 0, none⟩), .int .i64 n] w (Drawn rb B 10 isInts2 w) := by
  obtain ⟨p, hp, h, HM⟩ := h.least
  have hlt := h.lt
  have HR := Lib.hid h
  have hU := RdUp.refl rb B 0 w
  by_cases hn1 : n < 0
  all_goals
    go_enter Try.func69, Try.ntmps69
    go_wp2_with (first | (go_at_call 62; ((with_reducible refine (pick_at HR.out hU (by intro c hU; (repeat (first | with_reducible assumption | refine RdUp.ups ?_ (by with_reducible assumption) | with_reducible refine RdUp.set ?_ (by first | exact Nat.le_refl _ | (simp only []; omega) | (simp; omega)) _ | with_reducible refine RdUp.alloc ?_ _ | with_reducible refine RdUp.drew ?_ | with_reducible exact RdUp.of (Up.refl _)))) (by omega)).mono ?_); rintro e w' ⟨i, rfl, hi0, hi1, hU, U⟩; have D := gcell U.1; have Z := U.1.size; (try simp at Z); (try have Y0 : w.heap.size < w'.heap.size := (by omega)); (try have Y1 : w.heap.size + 1 < w'.heap.size := (by omega)); (try have Y2 : w.heap.size + 1 + 1 < w'.heap.size := (by omega)); (try have X0 : w.heap.size < w'.heap.size + 1 := (by omega)); (try have X1 : w.heap.size + 1 < w'.heap.size + 1 := (by omega)); (try have X2 : w.heap.size + 1 + 1 < w'.heap.size + 1 := (by omega)))) | (go_at_call 63; ((with_reducible refine (num_at ([-1, 9223372036854775807]) HR.out hU (by intro c hU; (repeat (first | with_reducible assumption | refine RdUp.ups ?_ (by with_reducible assumption) | with_reducible refine RdUp.set ?_ (by first | exact Nat.le_refl _ | (simp only []; omega) | (simp; omega)) _ | with_reducible refine RdUp.alloc ?_ _ | with_reducible refine RdUp.drew ?_ | with_reducible exact RdUp.of (Up.refl _)))) (by omega) (by first | rfl | (simp; done) | fail) (by first | rfl | (simp; done) | fail) (by first | rfl | (simp; done) | fail) (by simp) (by simp) (by first | rfl | (simp; done) | fail)).mono ?_); rintro e w' ⟨i, rfl, hi, hU, U⟩; have D := gcell U.1; have Z := U.1.size; (try simp at Z); (try have Y0 : w.heap.size < w'.heap.size := (by omega)); (try have Y1 : w.heap.size + 1 < w'.heap.size := (by omega)); (try have Y2 : w.heap.size + 1 + 1 < w'.heap.size := (by omega)); (try have X0 : w.heap.size < w'.heap.size + 1 := (by omega)); (try have X1 : w.heap.size + 1 < w'.heap.size + 1 := (by omega)); (try have X2 : w.heap.size + 1 + 1 < w'.heap.size + 1 := (by omega)); (skip))) | (go_at_call 63; ((with_reducible refine (num_at ([-1, n + 1, 9223372036854775807]) HR.out hU (by intro c hU; (repeat (first | with_reducible assumption | refine RdUp.ups ?_ (by with_reducible assumption) | with_reducible refine RdUp.set ?_ (by first | exact Nat.le_refl _ | (simp only []; omega) | (simp; omega)) _ | with_reducible refine RdUp.alloc ?_ _ | with_reducible refine RdUp.drew ?_ | with_reducible exact RdUp.of (Up.refl _)))) (by omega) (by first | rfl | (simp; done) | fail) (by first | rfl | (simp; done) | fail) (by first | rfl | (simp; done) | fail) (by simp) (by simp) (by first | rfl | (simp; done) | fail)).mono ?_); rintro e w' ⟨i, rfl, hi, hU, U⟩; have D := gcell U.1; have Z := U.1.size; (try simp at Z); (try have Y0 : w.heap.size < w'.heap.size := (by omega)); (try have Y1 : w.heap.size + 1 < w'.heap.size := (by omega)); (try have Y2 : w.heap.size + 1 + 1 < w'.heap.size := (by omega)); (try have X0 : w.heap.size < w'.heap.size + 1 := (by omega)); (try have X1 : w.heap.size + 1 < w'.heap.size + 1 := (by omega)); (try have X2 : w.heap.size + 1 + 1 < w'.heap.size + 1 := (by omega)); (skip))))
    all_goals
      go_ret2
      exact ⟨_, rfl, ⟨_, _, rfl⟩, by exact RdUp.fin hU (by intro c hU; (repeat (first | with_reducible assumption | refine RdUp.ups ?_ (by with_reducible assumption) | with_reducible refine RdUp.set ?_ (by first | exact Nat.le_refl _ | (simp only []; omega) | (simp; omega)) _ | with_reducible refine RdUp.alloc ?_ _ | with_reducible refine RdUp.drew ?_ | with_reducible exact RdUp.of (Up.refl _)))) (by omega)⟩

set_option maxRecDepth 100000 in
set_option maxHeartbeats 4000000 in
theorem drawTouchedBlocks_any (v : Value) (l : List UInt8) (w : World) (h : ArgU w v l) :
    Calls Try.prog 31  #[v] w (fun e w' => ∃ (s : ByteArray) (a b : Int), e = .returned (.tuple #[.string s, .int .i64 a, .int .i64 b]) ∧ s.size ≤ 10002 ∧ Up w w') := by
  have cO := fun w' hu => open_at (h.up (w' := w') hu)
  clear h
  go_enter Try.func31, Try.ntmps31
  go_wp2_with (go_at_call 60; (with_reducible refine (cO _ (by (repeat (first | with_reducible exact Up.refl _ | with_reducible assumption | with_reducible refine Up.set ?_ (by first | exact Nat.le_refl _ | (simp only []; omega) | (simp; omega)) _ | with_reducible refine Up.alloc ?_ _ | with_reducible refine Up.drew ?_ | refine Up.trans ?_ (by with_reducible assumption))))).mono ?_); rintro e w1 ⟨B, rfl, hr, hUp⟩)
  obtain ⟨p, hp, hr, HM⟩ := hr.least
  have hlt := hr.lt
  have HR := Lib.hid hr
  have hU := RdUp.refl w.heap.size B 0 w1
  have cS := fun wx N h hN => l5Some_any w.heap.size B wx N h hN
  have hne0 : ¬ w1.heap.size = w.heap.size := by omega
  clear cO
  go_wp2_with ((go_at_call 61; ((with_reducible refine (draw_atM (cS) HR.out hU (by intro c hU; (repeat (first | with_reducible assumption | refine RdUp.ups ?_ (by with_reducible assumption) | with_reducible refine RdUp.set ?_ (by first | exact Nat.le_refl _ | (simp only []; omega) | (simp; omega)) _ | with_reducible refine RdUp.alloc ?_ _ | with_reducible refine RdUp.drew ?_ | with_reducible exact RdUp.of (Up.refl _)))) (by omega)).mono ?_); rintro e w' ⟨v, rfl, ⟨s, dict, st, rfl, hs, hdi, hst⟩, hU, U⟩; have D := gcell U.1; have Z := U.1.size; (try simp at Z); (try have Y0 : w.heap.size < w'.heap.size := (by omega)); (try have Y1 : w.heap.size + 1 < w'.heap.size := (by omega)); (try have Y2 : w.heap.size + 1 + 1 < w'.heap.size := (by omega)); (try have X0 : w.heap.size < w'.heap.size + 1 := (by omega)); (try have X1 : w.heap.size + 1 < w'.heap.size + 1 := (by omega)); (try have X2 : w.heap.size + 1 + 1 < w'.heap.size + 1 := (by omega)))))
  have cB := fun wx N h hN => l5Bad_any w.heap.size B st wx N h hN hst
  have cC := fun wx => csizes_any st wx (by omega)
  have hcs : contSize st ≤ 2560 ∧ -1 ≤ contSize st := by
    unfold contSize
    cases hc : contBlocks st with
    | none => exact ⟨by decide, by decide⟩
    | some l => have := sizeSum_bd (contBlocks_ok hc); have := (contBlocks_ok hc).1; simp only; omega
  have cR := fun wx N h hN => l5Range_any w.heap.size B (contSize st) wx N h hN (by omega) (by omega)
  generalize contSize st = cs at *
  clear D Z
  go_wp2_with (first | (go_at_call 70; (with_reducible refine (cC _).mono ?_); rintro e w3 ⟨rfl, U3⟩; have B3 := bcell U3; have Z3 := U3.size; (try simp at Z3); (try rw [Nat.add_one_le_iff] at Z3)) | ((go_at_call 69; ((with_reducible refine (draw_atM (cR) HR.out hU (by intro c hU; (repeat (first | with_reducible assumption | refine RdUp.ups ?_ (by with_reducible assumption) | with_reducible refine RdUp.set ?_ (by first | exact Nat.le_refl _ | (simp only []; omega) | (simp; omega)) _ | with_reducible refine RdUp.alloc ?_ _ | with_reducible refine RdUp.drew ?_ | with_reducible exact RdUp.of (Up.refl _)))) (by omega)).mono ?_); rintro e w' ⟨v, rfl, ⟨ra, rb, rfl⟩, hU, U⟩; have D := gcell U.1; have Z := U.1.size; (try simp at Z); (try have Y0 : w.heap.size < w'.heap.size := (by omega)); (try have Y1 : w.heap.size + 1 < w'.heap.size := (by omega)); (try have Y2 : w.heap.size + 1 + 1 < w'.heap.size := (by omega)); (try have X0 : w.heap.size < w'.heap.size + 1 := (by omega)); (try have X1 : w.heap.size + 1 < w'.heap.size + 1 := (by omega)); (try have X2 : w.heap.size + 1 + 1 < w'.heap.size + 1 := (by omega)))); clear D Z) | (go_at_call 64; ((with_reducible refine (draw_atM (cB) HR.out hU (by intro c hU; (repeat (first | with_reducible assumption | refine RdUp.ups ?_ (by with_reducible assumption) | with_reducible refine RdUp.set ?_ (by first | exact Nat.le_refl _ | (simp only []; omega) | (simp; omega)) _ | with_reducible refine RdUp.alloc ?_ _ | with_reducible refine RdUp.drew ?_ | with_reducible exact RdUp.of (Up.refl _)))) (by omega)).mono ?_); rintro e w' ⟨v, rfl, ⟨st2, rfl, hst2⟩, hU, U⟩; have D := gcell U.1; have Z := U.1.size; (try simp at Z); (try have Y0 : w.heap.size < w'.heap.size := (by omega)); (try have Y1 : w.heap.size + 1 < w'.heap.size := (by omega)); (try have Y2 : w.heap.size + 1 + 1 < w'.heap.size := (by omega)); (try have X0 : w.heap.size < w'.heap.size + 1 := (by omega)); (try have X1 : w.heap.size + 1 < w'.heap.size + 1 := (by omega)); (try have X2 : w.heap.size + 1 + 1 < w'.heap.size + 1 := (by omega)))))
  refine bodyPost_ret (v := .tuple #[.string st2, .int .i64 ra, .int .i64 rb]) (by simp [results, Try.results31, go_sem]) rfl ?_
  exact ⟨st2, ra, rb, rfl, hst2, up_grownR hUp hU.1 (Nat.le_refl _)⟩

set_option maxRecDepth 100000 in
set_option maxHeartbeats 4000000 in
theorem drawParseBlock_any (v : Value) (l : List UInt8) (w : World) (h : ArgU w v l) :
    Calls Try.prog 19  #[v] w (fun e w' => ∃ (s : ByteArray) (a : Int), e = .returned (.tuple #[.string s, .int .i64 a]) ∧ s.size ≤ 10002 ∧ Up w w') := by
  have cO := fun w' hu => open_at (h.up (w' := w') hu)
  clear h
  go_enter Try.func19, Try.ntmps19
  go_wp2_with (go_at_call 60; (with_reducible refine (cO _ (by (repeat (first | with_reducible exact Up.refl _ | with_reducible assumption | with_reducible refine Up.set ?_ (by first | exact Nat.le_refl _ | (simp only []; omega) | (simp; omega)) _ | with_reducible refine Up.alloc ?_ _ | with_reducible refine Up.drew ?_ | refine Up.trans ?_ (by with_reducible assumption))))).mono ?_); rintro e w1 ⟨B, rfl, hr, hUp⟩)
  obtain ⟨p, hp, hr, HM⟩ := hr.least
  have hlt := hr.lt
  have HR := Lib.hid hr
  have hU := RdUp.refl w.heap.size B 0 w1
  have cS := fun wx N h hN => l5Some_any w.heap.size B wx N h hN
  have hne0 : ¬ w1.heap.size = w.heap.size := by omega
  clear cO
  go_wp2_with ((go_at_call 61; ((with_reducible refine (draw_atM (cS) HR.out hU (by intro c hU; (repeat (first | with_reducible assumption | refine RdUp.ups ?_ (by with_reducible assumption) | with_reducible refine RdUp.set ?_ (by first | exact Nat.le_refl _ | (simp only []; omega) | (simp; omega)) _ | with_reducible refine RdUp.alloc ?_ _ | with_reducible refine RdUp.drew ?_ | with_reducible exact RdUp.of (Up.refl _)))) (by omega)).mono ?_); rintro e w' ⟨v, rfl, ⟨s, dict, st, rfl, hs, hdi, hst⟩, hU, U⟩; have D := gcell U.1; have Z := U.1.size; (try simp at Z); (try have Y0 : w.heap.size < w'.heap.size := (by omega)); (try have Y1 : w.heap.size + 1 < w'.heap.size := (by omega)); (try have Y2 : w.heap.size + 1 + 1 < w'.heap.size := (by omega)); (try have X0 : w.heap.size < w'.heap.size + 1 := (by omega)); (try have X1 : w.heap.size + 1 < w'.heap.size + 1 := (by omega)); (try have X2 : w.heap.size + 1 + 1 < w'.heap.size + 1 := (by omega)))))
  have cB := fun wx N h hN => l5Bad_any w.heap.size B st wx N h hN hst
  have cX := fun wx => indexS_any st wx (by omega)
  unfold IndexPost at cX
  generalize (contBlocks st).isSome = okX at *
  generalize placesK ((contBlocks st).getD []) ((contBlocks st).getD []).length = L at *
  clear D Z
  go_wp2_with fail
  (with_reducible refine (cX _).mono ?_); rintro e w3 ⟨v3, rfl, h3, U3⟩
  obtain ⟨a3, ca3, rfl, hm3, hsome3⟩ := ownsRow_any h3
  have HUp := Lib.hid hUp
  clear hUp
  by_cases hL : 0 < L.length
  · obtain ⟨g, rfl, hg1, hg2, hg3, hg4, hcells⟩ := hsome3 hL
    have hgw3 := hg4
    have hgne : ¬ g = w.heap.size := by have := hlt; have := U.1.size; have := hg3; simp at this; omega
    have hcl := fun j (hj : j < L.length) => (plc_cells hcells (List.getElem?_eq_getElem hj)).1
    clear hcells
    go_wp2_with (first | (go_at_call 62; ((with_reducible refine (pick_at (n := (L.length : Int)) HR.out hU (by intro c hU; (repeat (first | with_reducible assumption | refine RdUp.ups ?_ (by with_reducible assumption) | with_reducible refine RdUp.set ?_ (by first | exact Nat.le_refl _ | (simp only []; omega) | (simp; omega)) _ | with_reducible refine RdUp.alloc ?_ _ | with_reducible refine RdUp.drew ?_ | with_reducible exact RdUp.of (Up.refl _)))) (by omega)).mono ?_); rintro e w' ⟨i, rfl, i0, i1, hU, U⟩; have D := gcell U.1; have Z := U.1.size; (try simp at Z); (try have Y0 : w.heap.size < w'.heap.size := (by omega)); (try have Y1 : w.heap.size + 1 < w'.heap.size := (by omega)); (try have Y2 : w.heap.size + 1 + 1 < w'.heap.size := (by omega)); (try have X0 : w.heap.size < w'.heap.size + 1 := (by omega)); (try have X1 : w.heap.size + 1 < w'.heap.size + 1 := (by omega)); (try have X2 : w.heap.size + 1 + 1 < w'.heap.size + 1 := (by omega)); ((obtain ⟨j, rfl⟩ := Int.eq_ofNat_of_zero_le i0); have hj : j < L.length := (by omega); have d0 := (D.1 g (j * 2) hg4 (fun e => hgne (Option.some.inj e))).trans (hcl j hj)))) | (go_at_call 62; ((with_reducible refine (pick_at HR.out hU (by intro c hU; (repeat (first | with_reducible assumption | refine RdUp.ups ?_ (by with_reducible assumption) | with_reducible refine RdUp.set ?_ (by first | exact Nat.le_refl _ | (simp only []; omega) | (simp; omega)) _ | with_reducible refine RdUp.alloc ?_ _ | with_reducible refine RdUp.drew ?_ | with_reducible exact RdUp.of (Up.refl _)))) (by omega)).mono ?_); rintro e w' ⟨i, rfl, hi0, hi1, hU, U⟩; have D := gcell U.1; have Z := U.1.size; (try simp at Z); (try have Y0 : w.heap.size < w'.heap.size := (by omega)); (try have Y1 : w.heap.size + 1 < w'.heap.size := (by omega)); (try have Y2 : w.heap.size + 1 + 1 < w'.heap.size := (by omega)); (try have X0 : w.heap.size < w'.heap.size + 1 := (by omega)); (try have X1 : w.heap.size + 1 < w'.heap.size + 1 := (by omega)); (try have X2 : w.heap.size + 1 + 1 < w'.heap.size + 1 := (by omega)))) | (go_at_call 63; ((with_reducible refine (num_at ([-1, (st.size : Int), (st.size : Int) + 1, 9223372036854775807]) HR.out hU (by intro c hU; (repeat (first | with_reducible assumption | refine RdUp.ups ?_ (by with_reducible assumption) | with_reducible refine RdUp.set ?_ (by first | exact Nat.le_refl _ | (simp only []; omega) | (simp; omega)) _ | with_reducible refine RdUp.alloc ?_ _ | with_reducible refine RdUp.drew ?_ | with_reducible exact RdUp.of (Up.refl _)))) (by omega) (by first | rfl | (simp; done) | fail) (by first | rfl | (simp; done) | fail) (by first | rfl | (simp; done) | fail) (by simp) (by simp) (by first | rfl | (simp; done) | fail)).mono ?_); rintro e w' ⟨i, rfl, hi, hU, U⟩; have D := gcell U.1; have Z := U.1.size; (try simp at Z); (try have Y0 : w.heap.size < w'.heap.size := (by omega)); (try have Y1 : w.heap.size + 1 < w'.heap.size := (by omega)); (try have Y2 : w.heap.size + 1 + 1 < w'.heap.size := (by omega)); (try have X0 : w.heap.size < w'.heap.size + 1 := (by omega)); (try have X1 : w.heap.size + 1 < w'.heap.size + 1 := (by omega)); (try have X2 : w.heap.size + 1 + 1 < w'.heap.size + 1 := (by omega)); (skip))) | (go_at_call 64; ((with_reducible refine (draw_atM (cB) HR.out hU (by intro c hU; (repeat (first | with_reducible assumption | refine RdUp.ups ?_ (by with_reducible assumption) | with_reducible refine RdUp.set ?_ (by first | exact Nat.le_refl _ | (simp only []; omega) | (simp; omega)) _ | with_reducible refine RdUp.alloc ?_ _ | with_reducible refine RdUp.drew ?_ | with_reducible exact RdUp.of (Up.refl _)))) (by omega)).mono ?_); rintro e w' ⟨v, rfl, ⟨st2, rfl, hst2⟩, hU, U⟩; have D := gcell U.1; have Z := U.1.size; (try simp at Z); (try have Y0 : w.heap.size < w'.heap.size := (by omega)); (try have Y1 : w.heap.size + 1 < w'.heap.size := (by omega)); (try have Y2 : w.heap.size + 1 + 1 < w'.heap.size := (by omega)); (try have X0 : w.heap.size < w'.heap.size + 1 := (by omega)); (try have X1 : w.heap.size + 1 < w'.heap.size + 1 := (by omega)); (try have X2 : w.heap.size + 1 + 1 < w'.heap.size + 1 := (by omega)))))
    all_goals
      go_ret2
      exact ⟨st2, _, rfl, hst2, up_grownR HUp.out hU.1 (Nat.le_refl _)⟩
  · have hL0 : L.length = 0 := by omega
    clear hsome3
    go_wp2_with (first | (go_at_call 62; ((with_reducible refine (pick_at HR.out hU (by intro c hU; (repeat (first | with_reducible assumption | refine RdUp.ups ?_ (by with_reducible assumption) | with_reducible refine RdUp.set ?_ (by first | exact Nat.le_refl _ | (simp only []; omega) | (simp; omega)) _ | with_reducible refine RdUp.alloc ?_ _ | with_reducible refine RdUp.drew ?_ | with_reducible exact RdUp.of (Up.refl _)))) (by omega)).mono ?_); rintro e w' ⟨i, rfl, hi0, hi1, hU, U⟩; have D := gcell U.1; have Z := U.1.size; (try simp at Z); (try have Y0 : w.heap.size < w'.heap.size := (by omega)); (try have Y1 : w.heap.size + 1 < w'.heap.size := (by omega)); (try have Y2 : w.heap.size + 1 + 1 < w'.heap.size := (by omega)); (try have X0 : w.heap.size < w'.heap.size + 1 := (by omega)); (try have X1 : w.heap.size + 1 < w'.heap.size + 1 := (by omega)); (try have X2 : w.heap.size + 1 + 1 < w'.heap.size + 1 := (by omega)))) | (go_at_call 63; ((with_reducible refine (num_at ([-1, (st.size : Int), (st.size : Int) + 1, 9223372036854775807]) HR.out hU (by intro c hU; (repeat (first | with_reducible assumption | refine RdUp.ups ?_ (by with_reducible assumption) | with_reducible refine RdUp.set ?_ (by first | exact Nat.le_refl _ | (simp only []; omega) | (simp; omega)) _ | with_reducible refine RdUp.alloc ?_ _ | with_reducible refine RdUp.drew ?_ | with_reducible exact RdUp.of (Up.refl _)))) (by omega) (by first | rfl | (simp; done) | fail) (by first | rfl | (simp; done) | fail) (by first | rfl | (simp; done) | fail) (by simp) (by simp) (by first | rfl | (simp; done) | fail)).mono ?_); rintro e w' ⟨i, rfl, hi, hU, U⟩; have D := gcell U.1; have Z := U.1.size; (try simp at Z); (try have Y0 : w.heap.size < w'.heap.size := (by omega)); (try have Y1 : w.heap.size + 1 < w'.heap.size := (by omega)); (try have Y2 : w.heap.size + 1 + 1 < w'.heap.size := (by omega)); (try have X0 : w.heap.size < w'.heap.size + 1 := (by omega)); (try have X1 : w.heap.size + 1 < w'.heap.size + 1 := (by omega)); (try have X2 : w.heap.size + 1 + 1 < w'.heap.size + 1 := (by omega)); (skip))) | (go_at_call 64; ((with_reducible refine (draw_atM (cB) HR.out hU (by intro c hU; (repeat (first | with_reducible assumption | refine RdUp.ups ?_ (by with_reducible assumption) | with_reducible refine RdUp.set ?_ (by first | exact Nat.le_refl _ | (simp only []; omega) | (simp; omega)) _ | with_reducible refine RdUp.alloc ?_ _ | with_reducible refine RdUp.drew ?_ | with_reducible exact RdUp.of (Up.refl _)))) (by omega)).mono ?_); rintro e w' ⟨v, rfl, ⟨st2, rfl, hst2⟩, hU, U⟩; have D := gcell U.1; have Z := U.1.size; (try simp at Z); (try have Y0 : w.heap.size < w'.heap.size := (by omega)); (try have Y1 : w.heap.size + 1 < w'.heap.size := (by omega)); (try have Y2 : w.heap.size + 1 + 1 < w'.heap.size := (by omega)); (try have X0 : w.heap.size < w'.heap.size + 1 := (by omega)); (try have X1 : w.heap.size + 1 < w'.heap.size + 1 := (by omega)); (try have X2 : w.heap.size + 1 + 1 < w'.heap.size + 1 := (by omega)))))
    all_goals
      go_ret2
      exact ⟨st2, _, rfl, hst2, up_grownR HUp.out hU.1 (Nat.le_refl _)⟩

end Go.Proofs.Ythemmoecocjpjaa

/- Walks of TouchedBlocks, the program's and the reference's. Conditions: the string's length is below 2^30. -/
namespace Go.Proofs.Ythemmoecocjpjaa
set_option linter.unusedVariables false
set_option linter.unusedSimpArgs false
open Go.RowKit

/-- Whether block number i has data of the range. -/
def hitB (l : List BlkD) (lo hi : Int) (i : Nat) : Bool := decide (sizeSum (l.take i) < hi) && decide (lo < sizeSum (l.take (i + 1))) && decide (lo < hi)
def touchK (l : List BlkD) (lo hi : Int) (k : Nat) : List Int := ((List.range k).filter (hitB l lo hi)).map fun (i : Nat) => (i : Int)
theorem touchK_hit {l : List BlkD} {lo hi : Int} {k : Nat} (h : hitB l lo hi k = true) : touchK l lo hi (k + 1) = touchK l lo hi k ++ [(k : Int)] := by simp [touchK, List.range_succ, List.filter_append, h]
theorem touchK_miss {l : List BlkD} {lo hi : Int} {k : Nat} (h : hitB l lo hi k = false) : touchK l lo hi (k + 1) = touchK l lo hi k := by simp [touchK, List.range_succ, List.filter_append, h]
theorem touchK_length (l : List BlkD) (lo hi : Int) (k : Nat) : (touchK l lo hi k).length ≤ k := by
  have := List.length_filter_le (hitB l lo hi) (List.range k)
  simp [touchK] at *; exact this
def contTouch (s : ByteArray) (lo hi : Int) : List Int := match contBlocks s with | none => [] | some l => touchK l lo hi l.length
theorem hitB_iff {l : List BlkD} {lo hi : Int} {k : Nat} : hitB l lo hi k = true ↔ sizeSum (l.take k) < hi ∧ lo < sizeSum (l.take (k + 1)) ∧ lo < hi := by simp [hitB, and_assoc]
theorem hitB_not {l : List BlkD} {lo hi : Int} {k : Nat} : hitB l lo hi k = false ↔ ¬ (sizeSum (l.take k) < hi ∧ lo < sizeSum (l.take (k + 1)) ∧ lo < hi) := by rw [← hitB_iff]; simp
theorem cellsI_snocT (l : List Int) (x : Int) : cellsI (l ++ [x]) = cellsI l ++ [.int .i64 x] := by simp [cellsI]
theorem oneInt (x : Int) : ∀ u ∈ [Value.int .i64 x], u.oneCell' = true := by
  intro u hu; simp at hu; subst hu; rfl

def RelT (l : List BlkD) (lo hi : Int) (w : World) (v t i : Value) (wr : World) : Prop := ∃ k : Nat, k ≤ l.length ∧ i = .int .i64 k ∧ t = .int .i64 (sizeSum (l.take k)) ∧ wr.ownsRow w.heap.size 3 1 v (touchK l lo hi k).length (cellsI (touchK l lo hi k)) ∧ Up w wr

def TouchPost (s : ByteArray) (lo hi : Int) (w : World) (e : Ending) (w' : World) : Prop := ∃ v, e = .returned v ∧ w'.ownsRow w.heap.size 3 1 v (contTouch s lo hi).length (cellsI (contTouch s lo hi)) ∧ Up w w'

set_option maxRecDepth 100000 in
set_option maxHeartbeats 2000000 in
theorem touchI_any (s : ByteArray) (lo hi : Int) (w : World) (hs : s.size ≤ 1073741824) :
    Calls Try.prog 32 #[.string s, .int .i64 lo, .int .i64 hi] w (TouchPost s lo hi w) := by
  obtain ⟨i0, hi0, hz0, hz1, hz2⟩ := info_parts infoInt
  unfold TouchPost contTouch
  cases hc : contBlocks s with
  | none =>
    have cP := contI_none hc hs
    clear hc
    go_enter Try.func32, Try.ntmps32
    go_wp2_with (go_at_call 22; (with_reducible refine (cP _).mono ?_); rintro e w1 ⟨v, rfl, hown, U1⟩)
    go_ret
    exact ⟨_, rfl, World.ownsRow_nil _ _ _ _, U1⟩
  | some l =>
    have cP := contI_some hc hs
    have hok := contBlocks_ok hc
    have hl40 := hok.1
    clear hc
    go_enter Try.func32, Try.ntmps32
    go_wp2_with (go_at_call 22; (with_reducible refine (cP _).mono ?_); rintro e w1 ⟨v, rfl, hownB, U1⟩; obtain ⟨a, cap, rfl, hm, hsome⟩ := ownsRow_any hownB)
    go_loopw [9, 10, 23] (fun v t i wr => RelT l lo hi w1 v t i wr) (fun _ _ i _ => l.length - (intOf i).toNat)
    case atStart => exact ⟨0, Nat.zero_le _, rfl, rfl, World.ownsRow_nil _ _ _ _, Up.refl _⟩
    case round =>
      obtain ⟨k, hk, rfl, rfl, hown, hup⟩ := hrel
      have htl := touchK_length l lo hi k
      have hsz := hup.size
      have hlen : (l.take k).length ≤ 40 := by simp; omega
      obtain ⟨hb1, hb2⟩ := sizeSum_bd (accOk_take hok k)
      have hb3 : sizeSum (l.take k) ≤ 2560 := by omega
      clear hb2 hlen
      by_cases hlt : k < l.length
      · obtain ⟨g, rfl, hnc, hcm, hbg, hg, hcells⟩ := hsome (by omega)
        obtain ⟨c0, c1, c2, c3⟩ := blk_cells (w := wr) (fun j u hj => (hup.cell (p := ⟨g, j, none⟩) hg).trans (hcells j u hj)) hlt
        obtain ⟨hs1, hs2, _⟩ := (hok.2 l[k] (List.getElem_mem hlt))
        have HS : Hid (sizeSum (l.take (k + 1)) = sizeSum (l.take k) + l[k].size) := sizeSum_take hlt
        clear hcells
        cases hh : hitB l lo hi k
        · have HT := Lib.hid (touchK_miss hh)
          have hh' := hitB_not.1 hh
          rw [HS.out] at hh'
          clear hh
          generalize sizeSum (l.take k) = S at *
          generalize l[k].size = Z at *
          by_cases q1 : S < lo
          all_goals by_cases q2 : hi < S + Z
          all_goals
            first
            | (exfalso; omega)
            | go_wp2
              go_roundw
              case rel => exact ⟨k + 1, by omega, by go_num, by rw [HS.out], by rw [HT.out]; exact hown.alloc _, hup.alloc _⟩
              case measure => simp [intOf]; omega
        · have HT := Lib.hid (touchK_hit hh)
          obtain ⟨q1, q2, q3⟩ := hitB_iff.1 hh
          rw [HS.out] at q2
          clear hh
          generalize sizeSum (l.take k) = S at *
          generalize l[k].size = Z at *
          by_cases r1 : S < lo
          all_goals by_cases r2 : hi < S + Z
          all_goals
            go_wp2_with (at_builtin; refine wpList_append_own _ rfl _ _ 49 rfl w1.heap.size 3 i0 (.int .i64 0) 1 8 Try.underlying49 hi0 hz0 hz1 hz2 rfl (by decide) _ _ _ rfl ((hown.alloc _).alloc _) ⟨wr.heap.size + 1, 0, none⟩ 1 1 [.int .i64 k] rfl rfl (new_cells [.int .i64 k] _ (size_alloc _ _).symm) (oneInt _) (by unfold maxLen; omega) (by omega) (by simp; omega) ?_; rintro v2 w2 hown2 hgr2 -)
            go_roundw
            case rel => exact ⟨k + 1, by omega, by go_num, by rw [HS.out], by rw [HT.out, cellsI_snocT, List.length_append]; exact hown2, ((hup.alloc _).alloc _).grown hgr2 (fun x hx => (hown.lt x hx).1)⟩
            case measure => simp [intOf]; omega
      · have e : k = l.length := by omega
        subst e
        go_wp2
        go_ret
        exact ⟨_, rfl, ownsRow_base hown U1.size, U1.trans hup⟩

def RelU (l : List BlkD) (lo hi : Int) (w : World) (vb vp : Value) (v i : Value) (wr : World) : Prop := ∃ k : Nat, k ≤ l.length ∧ i = .int .i64 k ∧ wr.ownsRow w.heap.size 3 1 v (touchK l lo hi k).length (cellsI (touchK l lo hi k)) ∧ wr.ownsRow 0 24 4 vb l.length (cellsB l) ∧ wr.ownsRow 0 46 2 vp l.length (cellsP (placesK l l.length)) ∧ Up w wr

set_option maxRecDepth 100000 in
set_option maxHeartbeats 4000000 in
theorem touchS_any (s : ByteArray) (lo hi : Int) (w : World) (hs : s.size ≤ 1073741824) :
    Calls Try.prog 34 #[.string s, .int .i64 lo, .int .i64 hi] w (TouchPost s lo hi w) := by
  obtain ⟨i0, hi0, hz0, hz1, hz2⟩ := info_parts infoInt
  unfold TouchPost contTouch
  cases hc : contBlocks s with
  | none =>
    have cP := contS_none hc hs
    clear hc
    go_enter Try.func34, Try.ntmps34
    go_wp2_with (first | (go_at_call 67; (with_reducible refine (cP _).mono ?_); rintro e w1 ⟨v, rfl, hownB, U1⟩; obtain ⟨a, cap, rfl, -, -⟩ := ownsRow_any hownB) | (go_at_call 68; (with_reducible refine (placesS_any [] _ _ _ hownB accOk_nil).mono ?_); rintro e w2 ⟨vp, rfl, hownP, U2⟩))
    go_loopw [7, 11] (fun v i wr => v = .slice (some ⟨w.heap.size, 0, none⟩) 0 0 ∧ i = .int .i64 0 ∧ wr = w2) (fun _ _ _ => 0)
    case atStart => exact ⟨rfl, rfl, rfl⟩
    case round =>
      obtain ⟨rfl, rfl, rfl⟩ := hrel
      go_wp2
      go_ret
      exact ⟨_, rfl, ownsRow_up (ownsRow_up (World.ownsRow_made w #[] 0 (Nat.le_refl _) (by unfold maxLen; omega) rfl) U1) U2, ((Up.refl _).alloc _).trans (U1.trans U2)⟩
  | some l =>
    have cP := contS_some hc hs
    have hok := contBlocks_ok hc
    have hl40 := hok.1
    clear hc
    go_enter Try.func34, Try.ntmps34
    go_wp2_with (first | (go_at_call 67; (with_reducible refine (cP _).mono ?_); rintro e w1 ⟨v, rfl, hownB, U1⟩; obtain ⟨a, cap, rfl, -, -⟩ := ownsRow_any hownB) | (go_at_call 68; (with_reducible refine (placesS_any l _ _ _ hownB hok).mono ?_); rintro e w2 ⟨vp, rfl, hownP, U2⟩; obtain ⟨ap, capp, rfl, -, -⟩ := ownsRow_any hownP))
    go_loopw [7, 11] (fun v i wr => RelU l lo hi w (.slice a l.length cap) (.slice ap l.length capp) v i wr) (fun _ i _ => l.length - (intOf i).toNat)
    case atStart => exact ⟨0, Nat.zero_le _, rfl, ownsRow_up (ownsRow_up (World.ownsRow_made w #[] 0 (Nat.le_refl _) (by unfold maxLen; omega) rfl) U1) U2, ownsRow_up (ownsRow_base hownB (Nat.zero_le _)) U2, ownsRow_base hownP (Nat.zero_le _), ((Up.refl _).alloc _).trans (U1.trans U2)⟩
    case round =>
      obtain ⟨k, hk, rfl, hO, hB, hP, hup⟩ := hrel
      have htl := touchK_length l lo hi k
      have hsz := hup.size
      have hlen : (l.take k).length ≤ 40 := by simp; omega
      obtain ⟨hb1, hb2⟩ := sizeSum_bd (accOk_take hok k)
      have hb3 : sizeSum (l.take k) ≤ 2560 := by omega
      clear hb2 hlen
      by_cases hlt : k < l.length
      · obtain ⟨g, rfl, hnc, hcm, hbg, hg⟩ := ownsRow_slot hB (by omega)
        obtain ⟨gp, rfl, hncp, hcmp, hbgp, hgp⟩ := ownsRow_slot hP (by omega)
        obtain ⟨c0, c1, c2, c3⟩ := blk_cells (w := wr) (fun j u hj => ownsRow_cell hB hj) hlt
        obtain ⟨d0, d1⟩ := plc_cells (w := wr) (fun j u hj => ownsRow_cell hP hj) (placesK_get l l.length k hlt)
        obtain ⟨hs1, hs2, _⟩ := (hok.2 l[k] (List.getElem_mem hlt))
        have HS : Hid (sizeSum (l.take (k + 1)) = sizeSum (l.take k) + l[k].size) := sizeSum_take hlt
        clear c0 c1 c3 d0
        simp only at d1
        cases hh : hitB l lo hi k
        · have HT := Lib.hid (touchK_miss hh)
          have hh' := hitB_not.1 hh
          rw [HS.out] at hh'
          clear hh
          generalize sizeSum (l.take k) = S at *
          generalize l[k].size = Z at *
          by_cases q1 : S < hi
          all_goals by_cases q2 : lo < S + Z
          all_goals by_cases q3 : lo < hi
          all_goals
            first
            | (exfalso; omega)
            | (first | have e1 := decide_eq_true q1 | have e1 := decide_eq_false q1)
              (first | have e2 := decide_eq_true q2 | have e2 := decide_eq_false q2)
              (first | have e3 := decide_eq_true q3 | have e3 := decide_eq_false q3)
              go_wp2
              refine wp_region_up 27 (by kernel_rfl) (by kernel_rfl) ?_
              simp only [List.take, List.drop]
              repeat (refine wpUp_step (fun K hK => ?_); go_simp; (try simp only [↓IntWalk.iteOmega]); first
                | (refine hK _ _ ?_; clear hK K)
                | (apply stepU_c
                   · intro wq hwq; (have hbq := bcell hwq; (repeat (first | refine fills_no (by rfl) ?_ | refine fills_yes (by rfl) (fun vq hvq => ?_))); simp only [List.filter_nil, fills]; unfold upAt; (try ((have x1 := hbq.1 gp (k * 2 + 1) hgp; have x2 := hbq.1 g (k * 4 + 2) hg))); go_simp; (try go_bits); (try simp only [↓IntWalk.iteOmega]); (try (rw [dif_pos (by omega)]; go_simp; try go_bits)); first | exact upOut_value)
                   go_simp; refine hK _ _ ?_; clear hK K))
              refine wpUp_nil (fun wq hwq => ?_)
              simp only [fills]
              go_wp2
              go_roundw
              case rel => exact ⟨k + 1, by omega, by go_num, by rw [HT.out]; exact ownsRow_up hO hwq, ownsRow_up hB hwq, ownsRow_up hP hwq, hup.trans hwq⟩
              case measure => simp [intOf]; omega
        · have HT := Lib.hid (touchK_hit hh)
          obtain ⟨q1, q2, q3⟩ := hitB_iff.1 hh
          rw [HS.out] at q2
          clear hh
          generalize sizeSum (l.take k) = S at *
          generalize l[k].size = Z at *
          go_wp2
          refine wp_region_up 27 (by kernel_rfl) (by kernel_rfl) ?_
          simp only [List.take, List.drop]
          repeat (refine wpUp_step (fun K hK => ?_); go_simp; (try simp only [↓IntWalk.iteOmega]); first
            | (refine hK _ _ ?_; clear hK K)
            | (apply stepU_c
               · intro wq hwq; (have hbq := bcell hwq; (repeat (first | refine fills_no (by rfl) ?_ | refine fills_yes (by rfl) (fun vq hvq => ?_))); simp only [List.filter_nil, fills]; unfold upAt; (try ((have x1 := hbq.1 gp (k * 2 + 1) hgp; have x2 := hbq.1 g (k * 4 + 2) hg))); go_simp; (try go_bits); (try simp only [↓IntWalk.iteOmega]); (try (rw [dif_pos (by omega)]; go_simp; try go_bits)); first | exact upOut_value)
               go_simp; refine hK _ _ ?_; clear hK K))
          refine wpUp_nil (fun wq hwq => ?_)
          simp only [fills]
          have hOq := ownsRow_up hO hwq
          have hBq := ownsRow_up hB hwq
          have hPq := ownsRow_up hP hwq
          have U3 := hup.trans hwq
          go_wp2_with (at_builtin; refine wpList_append_own _ rfl _ _ 49 rfl w.heap.size 3 i0 (.int .i64 0) 1 8 Try.underlying49 hi0 hz0 hz1 hz2 rfl (by decide) _ _ _ rfl (hOq.alloc _) ⟨wq.heap.size, 0, none⟩ 1 1 [.int .i64 k] rfl rfl (new_cells [.int .i64 k] _ rfl) (oneInt _) (by unfold maxLen; omega) (by omega) (by have := U3.size; simp; omega) ?_; rintro v2 w2 hown2 hgr2 -)
          go_roundw
          case rel => exact ⟨k + 1, by omega, by go_num, by rw [HT.out, cellsI_snocT, List.length_append]; exact hown2, (hBq.alloc _).kept hgr2 (ownsRow_ne hBq hOq (by decide)), (hPq.alloc _).kept hgr2 (ownsRow_ne hPq hOq (by decide)), (U3.alloc _).grown hgr2 (fun x hx => (hO.lt x hx).1)⟩
          case measure => simp [intOf]; omega
      · have e : k = l.length := by omega
        subst e
        go_wp2
        go_ret
        exact ⟨_, rfl, hO, hup⟩

end Go.Proofs.Ythemmoecocjpjaa

/- Walks of the laws' own functions on slices: equality. Conditions: the rows can be read. -/
namespace Go.Proofs.Ythemmoecocjpjaa
set_option linter.unusedVariables false
set_option linter.unusedSimpArgs false
open Go.RowKit

theorem int_cells {w : World} {l : List Int} {g : Nat} (hc : ∀ j u, (cellsI l)[j]? = some u → w.cell? ⟨g, j, none⟩ = some u) {k : Nat} (hk : k < l.length) : w.cell? ⟨g, k, none⟩ = some (.int .i64 l[k]) :=
  hc k _ (by simp [cellsI, List.getElem?_eq_getElem hk])

set_option maxRecDepth 100000 in
set_option maxHeartbeats 2000000 in
theorem soPlaces_any (l : List PlaceD) (va vb : Value) (ba bb : Nat) (w : World) (ha : w.ownsRow ba 46 2 va l.length (cellsP l)) (hb : w.ownsRow bb 46 2 vb l.length (cellsP l)) :
    Calls Try.prog 30 #[va, vb] w (Same (.bool true) w) := by
  obtain ⟨a, ca, rfl, hm, -⟩ := ownsRow_any ha
  obtain ⟨b, cb, rfl, -, -⟩ := ownsRow_any hb
  unfold maxLen at hm
  go_enter Try.func30, Try.ntmps30
  go_wp2
  go_loopw [5] (fun i wr => RelE w l.length i wr) (fun i _ => l.length - (intOf i).toNat)
  case atStart => exact ⟨0, Nat.zero_le _, rfl, Up.refl _⟩
  case round =>
    obtain ⟨k, hk, rfl, hup⟩ := hrel
    by_cases hlt : k < l.length
    · obtain ⟨g, rfl, hc1, hc2, -, hg⟩ := ownsRow_slot ha (by omega)
      obtain ⟨g', rfl, hc1', hc2', -, hg'⟩ := ownsRow_slot hb (by omega)
      have hgw := Nat.lt_of_lt_of_le hg hup.size
      have hgw' := Nat.lt_of_lt_of_le hg' hup.size
      have ⟨c0, c1⟩ := plc_cells' (read_cells (ownsRow_up ha hup)) hlt
      have ⟨d0, d1⟩ := plc_cells' (read_cells (ownsRow_up hb hup)) hlt
      go_wp2
      refine wp_region_up 9 (by kernel_rfl) (by kernel_rfl) ?_
      simp only [List.take, List.drop]
      repeat (refine wpUp_step (fun K hK => ?_); go_simp; (try simp only [↓IntWalk.iteOmega]); first
        | (refine hK _ _ ?_; clear hK K)
        | (apply stepU_c
           · intro wq hwq; (have hbq := bcell hwq; (repeat (first | refine fills_no (by rfl) ?_ | refine fills_yes (by rfl) (fun vq hvq => ?_))); simp only [List.filter_nil, fills]; unfold upAt; (try ((have xa0 := (hbq.1 g (k * 2) hgw).trans c0; have xa1 := (hbq.1 g (k * 2 + 1) hgw).trans c1; have xb0 := (hbq.1 g' (k * 2) hgw').trans d0; have xb1 := (hbq.1 g' (k * 2 + 1) hgw').trans d1))); go_simp; (try go_bits); (try simp only [↓IntWalk.iteOmega]); (try (rw [dif_pos (by omega)]; go_simp; try go_bits)); first | exact upOut_value)
           go_simp; refine hK _ _ ?_; clear hK K))
      refine wpUp_nil (fun wq hwq => ?_)
      simp only [fills]
      go_wp2
      go_roundw
      case rel => exact ⟨k + 1, by omega, by go_num, hup.trans hwq⟩
      case measure => simp [intOf]; omega
    · go_wp2
      go_ret
      exact ⟨rfl, hup⟩

set_option maxRecDepth 100000 in
set_option maxHeartbeats 2000000 in
theorem soBlocks_any (l : List BlkD) (va vb : Value) (ba bb : Nat) (w : World) (ha : w.ownsRow ba 24 4 va l.length (cellsB l)) (hb : w.ownsRow bb 24 4 vb l.length (cellsB l)) :
    Calls Try.prog 24 #[va, vb] w (Same (.bool true) w) := by
  obtain ⟨a, ca, rfl, hm, -⟩ := ownsRow_any ha
  obtain ⟨b, cb, rfl, -, -⟩ := ownsRow_any hb
  unfold maxLen at hm
  go_enter Try.func24, Try.ntmps24
  go_wp2
  go_loopw [5] (fun i wr => RelE w l.length i wr) (fun i _ => l.length - (intOf i).toNat)
  case atStart => exact ⟨0, Nat.zero_le _, rfl, Up.refl _⟩
  case round =>
    obtain ⟨k, hk, rfl, hup⟩ := hrel
    by_cases hlt : k < l.length
    · obtain ⟨g, rfl, hc1, hc2, -, hg⟩ := ownsRow_slot ha (by omega)
      obtain ⟨g', rfl, hc1', hc2', -, hg'⟩ := ownsRow_slot hb (by omega)
      have hgw := Nat.lt_of_lt_of_le hg hup.size
      have hgw' := Nat.lt_of_lt_of_le hg' hup.size
      have ⟨c0, c1, c2, c3⟩ := blk_cells (read_cells (ownsRow_up ha hup)) hlt
      have ⟨d0, d1, d2, d3⟩ := blk_cells (read_cells (ownsRow_up hb hup)) hlt
      go_wp2
      refine wp_region_up 9 (by kernel_rfl) (by kernel_rfl) ?_
      simp only [List.take, List.drop]
      repeat (refine wpUp_step (fun K hK => ?_); go_simp; (try simp only [↓IntWalk.iteOmega]); first
        | (refine hK _ _ ?_; clear hK K)
        | (apply stepU_c
           · intro wq hwq; (have hbq := bcell hwq; (repeat (first | refine fills_no (by rfl) ?_ | refine fills_yes (by rfl) (fun vq hvq => ?_))); simp only [List.filter_nil, fills]; unfold upAt; (try ((have xa0 := (hbq.1 g (k * 4) hgw).trans c0; have xa1 := (hbq.1 g (k * 4 + 1) hgw).trans c1; have xa2 := (hbq.1 g (k * 4 + 2) hgw).trans c2; have xa3 := (hbq.1 g (k * 4 + 3) hgw).trans c3; have xb0 := (hbq.1 g' (k * 4) hgw').trans d0; have xb1 := (hbq.1 g' (k * 4 + 1) hgw').trans d1; have xb2 := (hbq.1 g' (k * 4 + 2) hgw').trans d2; have xb3 := (hbq.1 g' (k * 4 + 3) hgw').trans d3))); go_simp; (try go_bits); (try simp only [↓IntWalk.iteOmega]); (try (rw [dif_pos (by omega)]; go_simp; try go_bits)); first | exact upOut_value)
           go_simp; refine hK _ _ ?_; clear hK K))
      refine wpUp_nil (fun wq hwq => ?_)
      simp only [fills]
      go_wp2
      go_roundw
      case rel => exact ⟨k + 1, by omega, by go_num, hup.trans hwq⟩
      case measure => simp [intOf]; omega
    · go_wp2
      go_ret
      exact ⟨rfl, hup⟩

set_option maxRecDepth 100000 in
set_option maxHeartbeats 2000000 in
theorem soInts_any (l : List Int) (va vb : Value) (ba bb : Nat) (w : World) (ha : w.ownsRow ba 3 1 va l.length (cellsI l)) (hb : w.ownsRow bb 3 1 vb l.length (cellsI l)) :
    Calls Try.prog 33 #[va, vb] w (Same (.bool true) w) := by
  obtain ⟨a, ca, rfl, hm, -⟩ := ownsRow_any ha
  obtain ⟨b, cb, rfl, -, -⟩ := ownsRow_any hb
  unfold maxLen at hm
  go_enter Try.func33, Try.ntmps33
  go_wp2
  go_loopw [5] (fun i wr => RelE w l.length i wr) (fun i _ => l.length - (intOf i).toNat)
  case atStart => exact ⟨0, Nat.zero_le _, rfl, Up.refl _⟩
  case round =>
    obtain ⟨k, hk, rfl, hup⟩ := hrel
    by_cases hlt : k < l.length
    · obtain ⟨g, rfl, hc1, hc2, -, hg⟩ := ownsRow_slot ha (by omega)
      obtain ⟨g', rfl, hc1', hc2', -, hg'⟩ := ownsRow_slot hb (by omega)
      have hgw := Nat.lt_of_lt_of_le hg hup.size
      have hgw' := Nat.lt_of_lt_of_le hg' hup.size
      have c0 := int_cells (read_cells (ownsRow_up ha hup)) hlt
      have d0 := int_cells (read_cells (ownsRow_up hb hup)) hlt
      go_wp2
      refine wp_region_up 9 (by kernel_rfl) (by kernel_rfl) ?_
      simp only [List.take, List.drop]
      repeat (refine wpUp_step (fun K hK => ?_); go_simp; (try simp only [↓IntWalk.iteOmega]); first
        | (refine hK _ _ ?_; clear hK K)
        | (apply stepU_c
           · intro wq hwq; (have hbq := bcell hwq; (repeat (first | refine fills_no (by rfl) ?_ | refine fills_yes (by rfl) (fun vq hvq => ?_))); simp only [List.filter_nil, fills]; unfold upAt; (try ((have xa0 := (hbq.1 g (k) hgw).trans c0; have xb0 := (hbq.1 g' (k) hgw').trans d0))); go_simp; (try go_bits); (try simp only [↓IntWalk.iteOmega]); (try (rw [dif_pos (by omega)]; go_simp; try go_bits)); first | exact upOut_value)
           go_simp; refine hK _ _ ?_; clear hK K))
      refine wpUp_nil (fun wq hwq => ?_)
      simp only [fills]
      go_wp2
      go_roundw
      case rel => exact ⟨k + 1, by omega, by go_num, hup.trans hwq⟩
      case measure => simp [intOf]; omega
    · go_wp2
      go_ret
      exact ⟨rfl, hup⟩

end Go.Proofs.Ythemmoecocjpjaa

/- Walks of the laws' own functions that copy places that came in. Conditions: they can be read, and are at most 2^20. -/
namespace Go.Proofs.Ythemmoecocjpjaa
set_option linter.unusedVariables false
set_option linter.unusedSimpArgs false
open Go.RowKit

/-- A slice of places that can be read. -/
def ArgP (w : World) (v : Value) (ps : List PlaceD) : Prop := ∃ a cap, v = .slice a ps.length cap ∧ ps.length ≤ maxLen ∧ (0 < ps.length → ∃ b off, a = some ⟨b, off, none⟩ ∧ ps.length ≤ cap ∧ cap ≤ maxLen ∧ b < w.heap.size ∧ ∀ i p, ps[i]? = some p → w.cell? ⟨b, off + i * 2, none⟩ = some (.int .i64 p.place) ∧ w.cell? ⟨b, off + i * 2 + 1, none⟩ = some (.int .i64 p.start))
theorem ArgP.up {w w' : World} {v : Value} {ps : List PlaceD} (h : ArgP w v ps) (hu : Up w w') : ArgP w' v ps := by
  obtain ⟨a, cap, h1, h2, h3⟩ := h
  refine ⟨a, cap, h1, h2, fun hp => ?_⟩
  obtain ⟨b, off, e1, e2, e3, e4, e5⟩ := h3 hp
  exact ⟨b, off, e1, e2, e3, Nat.lt_of_lt_of_le e4 hu.size, fun i p hi => ⟨(hu.cell (p := ⟨b, _, none⟩) e4).trans (e5 i p hi).1, (hu.cell (p := ⟨b, _, none⟩) e4).trans (e5 i p hi).2⟩⟩

def midT (ps : List PlaceD) (k : Nat) : List PlaceD := ps.take k ++ List.replicate (ps.length - k) ⟨0, 0⟩
theorem midT_all (ps : List PlaceD) : midT ps ps.length = ps := by simp [midT]
theorem midT_zero (ps : List PlaceD) : midT ps 0 = List.replicate ps.length ⟨0, 0⟩ := by simp [midT]
theorem midT_at (ps : List PlaceD) (k : Nat) (h : k < ps.length) : (midT ps k)[k]? = some ⟨0, 0⟩ := by
  rw [midT, List.getElem?_append_right (by simp; omega), List.getElem?_replicate, if_pos (by simp; omega)]
theorem midT_set (ps : List PlaceD) (k : Nat) (h : k < ps.length) : ((cellsP (midT ps k)).set (k * 2) (.int .i64 ps[k].place)).set (k * 2 + 1) (.int .i64 ps[k].start) = cellsP (midT ps (k + 1)) := by
  have e : List.replicate (ps.length - k) (⟨0, 0⟩ : PlaceD) = ⟨0, 0⟩ :: List.replicate (ps.length - (k + 1)) ⟨0, 0⟩ := by
    rw [show ps.length - k = (ps.length - (k + 1)) + 1 by omega]; rfl
  rw [midT, midT, e, List.take_succ_eq_append_getElem h]
  simp only [cellsP, List.flatMap_append, List.flatMap_cons, List.flatMap_nil, List.append_nil, List.append_assoc]
  exact set2 _ _ _ _ _ _ _ (by have := cellsP_length (ps.take k); rw [List.length_take, Nat.min_eq_left (by omega)] at this; exact this)

def RelTP (ps : List PlaceD) (w : World) (i : Value) (wr : World) : Prop := ∃ k : Nat, k ≤ ps.length ∧ i = .int .i64 k ∧ Up w wr ∧ wr.ownsRow w.heap.size 46 2 (.slice (some ⟨w.heap.size, 0, none⟩) ps.length ps.length) ps.length (cellsP (midT ps k))

end Go.Proofs.Ythemmoecocjpjaa

/- Walk of the reference's l5Seek. Conditions: the places can be read. -/
namespace Go.Proofs.Ythemmoecocjpjaa
set_option linter.unusedVariables false
set_option linter.unusedSimpArgs false
open Go.RowKit

/-- The last of the first k places that does not begin behind an offset, or -1. -/
def seekK (ps : List PlaceD) (o : Int) : Nat → Int
  | 0 => -1
  | k + 1 => if ((ps[k]?).map fun p => decide (p.start ≤ o)) = some true then k else seekK ps o k
theorem seekK_hit {ps : List PlaceD} {o : Int} {k : Nat} (h : k < ps.length) (hp : ps[k].start ≤ o) : seekK ps o (k + 1) = k := by
  rw [seekK, if_pos (by rw [List.getElem?_eq_getElem h]; simp [hp])]
theorem seekK_miss {ps : List PlaceD} {o : Int} {k : Nat} (h : k < ps.length) (hp : ¬ ps[k].start ≤ o) : seekK ps o (k + 1) = seekK ps o k := by
  rw [seekK, if_neg (by rw [List.getElem?_eq_getElem h]; simp; omega)]

def RelK (ps : List PlaceD) (o : Int) (w : World) (f i : Value) (wr : World) : Prop := ∃ k : Nat, k ≤ ps.length ∧ i = .int .i64 k ∧ f = .int .i64 (seekK ps o k) ∧ Up w wr

/-- What a place must be at its turn. -/
def plcB (ps : List PlaceD) (i : Nat) : Bool := match ps[i]? with
  | none => false
  | some p => decide (0 ≤ p.place ∧ p.place ≤ 4000 ∧ 0 ≤ p.start ∧ p.start ≤ 2000) && (if i = 0 then decide (p.place = 0 ∧ p.start = 0) else match ps[i - 1]? with
    | none => false
    | some q => decide (q.place < p.place ∧ q.start < p.start))
theorem plcB_zero {ps : List PlaceD} (h : 0 < ps.length) : plcB ps 0 = decide (ps[0].place = 0 ∧ ps[0].start = 0) := by
  unfold plcB
  rw [List.getElem?_eq_getElem h]
  simp only [if_true]
  rw [Bool.eq_iff_iff]; simp; omega
theorem plcB_succ {ps : List PlaceD} {k : Nat} (h : k + 1 < ps.length) : plcB ps (k + 1) = decide ((0 ≤ ps[k + 1].place ∧ ps[k + 1].place ≤ 4000 ∧ 0 ≤ ps[k + 1].start ∧ ps[k + 1].start ≤ 2000) ∧ ps[k].place < ps[k + 1].place ∧ ps[k].start < ps[k + 1].start) := by
  unfold plcB
  rw [List.getElem?_eq_getElem h, Nat.add_sub_cancel, List.getElem?_eq_getElem (by omega : k < ps.length)]
  simp only [Nat.succ_ne_zero, if_false]
  rw [Bool.eq_iff_iff]; simp
def validP (ps : List PlaceD) : Bool := decide (ps.length ≤ 40) && (List.range ps.length).all (plcB ps)
theorem validP_no {ps : List PlaceD} {i : Nat} (h : i < ps.length) (hn : plcB ps i = false) : validP ps = false := by
  have : (List.range ps.length).all (plcB ps) = false := by
    rw [List.all_eq_false]; exact ⟨i, List.mem_range.2 h, by simp [hn]⟩
  unfold validP; rw [this, Bool.and_false]
theorem validP_len {ps : List PlaceD} (h : ¬ ps.length ≤ 40) : validP ps = false := by
  unfold validP; rw [decide_eq_false h, Bool.false_and]
theorem validP_yes {ps : List PlaceD} (h : ps.length ≤ 40) (hh : ∀ i, i < ps.length → plcB ps i = true) : validP ps = true := by
  unfold validP; rw [decide_eq_true h, Bool.true_and, List.all_eq_true]
  exact fun i hi => hh i (List.mem_range.1 hi)

end Go.Proofs.Ythemmoecocjpjaa

/- Walk of the program's placesValid. Conditions: the places can be read. -/
namespace Go.Proofs.Ythemmoecocjpjaa
set_option linter.unusedVariables false
set_option linter.unusedSimpArgs false
open Go.RowKit

def RelV (ps : List PlaceD) (w : World) (i : Value) (wr : World) : Prop := ∃ k : Nat, k ≤ ps.length ∧ i = .int .i64 k ∧ (∀ j, j < k → plcB ps j = true) ∧ Up w wr

theorem plcB_no1 {ps : List PlaceD} {k : Nat} (h : k < ps.length) (hb : ¬ (0 ≤ ps[k].place ∧ ps[k].place ≤ 4000 ∧ 0 ≤ ps[k].start ∧ ps[k].start ≤ 2000)) : plcB ps k = false := by
  unfold plcB
  rw [List.getElem?_eq_getElem h]
  simp only [decide_eq_false hb, Bool.false_and]

set_option maxRecDepth 100000 in
set_option maxHeartbeats 4000000 in
theorem validI_any (ps : List PlaceD) (v : Value) (base : Nat) (w : World) (hown : w.ownsRow base 46 2 v ps.length (cellsP ps)) (hl : ps.length ≤ 1048576) :
    Calls Try.prog 71 #[v] w (Same (.bool (validP ps)) w) := by
  obtain ⟨a, ca, rfl, hm, -⟩ := ownsRow_any hown
  by_cases h40 : (40 : Int) < ps.length
  · have HN : Hid (validP ps = false) := validP_len (by omega)
    rw [HN.out]
    go_enter Try.func71, Try.ntmps71
    go_wp2
    go_ret
    exact ⟨rfl, Up.refl _⟩
  · go_enter Try.func71, Try.ntmps71
    go_wp2
    go_loopw [10] (fun i wr => RelV ps w i wr) (fun i _ => ps.length - (intOf i).toNat)
    case atStart => exact ⟨0, Nat.zero_le _, rfl, fun j hj => absurd hj (Nat.not_lt_zero _), Up.refl _⟩
    case round =>
      obtain ⟨k, hk, rfl, hall, hup⟩ := hrel
      have HA := Lib.hid hall
      clear hall
      by_cases hlt : k < ps.length
      · obtain ⟨g, rfl, hc1, hc2, -, hg⟩ := ownsRow_slot hown (by omega)
        have hrd := read_cells (ownsRow_up hown hup)
        obtain ⟨c0, c1⟩ := plc_cells' hrd hlt
        have hgw := Nat.lt_of_lt_of_le hg hup.size
        by_cases hb : 0 ≤ ps[k].place ∧ ps[k].place ≤ 4000 ∧ 0 ≤ ps[k].start ∧ ps[k].start ≤ 2000
        · obtain ⟨q1, q2, q3, q4⟩ := hb
          have nxt : ∀ (hp : plcB ps k = true) (j : Nat), j < k + 1 → plcB ps j = true := fun hp j hj => by
            rcases Nat.lt_or_ge j k with h | h
            · exact HA.out j h
            · have : j = k := by omega
              rw [this]; exact hp
          have NX := Lib.hid nxt
          clear nxt
          cases k with
          | zero =>
            clear hrd
            have HZ := Lib.hid (plcB_zero hlt)
            generalize hx : ps[0].place = x at *
            generalize hy : ps[0].start = y at *
            by_cases e1 : x = 0
            · by_cases e2 : y = 0
              · have HP : Hid (plcB ps 0 = true) := by unfold Hid; rw [HZ.out]; simp [e1, e2]
                subst e1 e2
                clear hx hy
                go_wp2
                refine wp_region_up 24 (by kernel_rfl) (by kernel_rfl) ?_
                simp only [List.take, List.drop]
                repeat (refine wpUp_step (fun K hK => ?_); go_simp; (try simp only [↓IntWalk.iteOmega]); first
                  | (refine hK _ _ ?_; clear hK K)
                  | (apply stepU_c
                     · intro wq hwq; (have hbq := bcell hwq; (repeat (first | refine fills_no (by rfl) ?_ | refine fills_yes (by rfl) (fun vq hvq => ?_))); simp only [List.filter_nil, fills]; unfold upAt; (try (skip)); go_simp; (try go_bits); (try simp only [↓IntWalk.iteOmega]); (try (rw [dif_pos (by omega)]; go_simp; try go_bits)); first | exact upOut_value)
                     go_simp; refine hK _ _ ?_; clear hK K))
                refine wpUp_nil (fun wq hwq => ?_)
                simp only [fills]
                go_wp2
                go_roundw
                case rel => exact ⟨0 + 1, by omega, by go_num, NX.out HP.out, (hup.alloc _).trans hwq⟩
                case measure => simp [intOf]; omega
              · have HN : Hid (validP ps = false) := validP_no hlt (by rw [HZ.out]; simp [e2])
                subst e1
                have e2' : (y == 0) = false := by simpa using e2
                clear hx hy
                go_wp2
                go_ret
                exact ⟨ret_bool HN.out.symm, hup.alloc _⟩
            · have HN : Hid (validP ps = false) := validP_no hlt (by rw [HZ.out]; simp [e1])
              have e1' : (x == 0) = false := by simpa using e1
              clear hx hy
              go_wp2
              go_ret
              exact ⟨ret_bool HN.out.symm, hup.alloc _⟩
          | succ j =>
            obtain ⟨d0, d1⟩ := plc_cells' hrd (show j < ps.length by omega)
            clear hrd
            have HZ := Lib.hid (plcB_succ hlt)
            generalize ps[j + 1].place = x at *
            generalize ps[j + 1].start = y at *
            generalize ps[j].place = x' at *
            generalize ps[j].start = y' at *
            by_cases e1 : x ≤ x'
            · have HN : Hid (validP ps = false) := validP_no hlt (by rw [HZ.out]; simp; omega)
              go_wp2
              refine wp_region_up 24 (by kernel_rfl) (by kernel_rfl) ?_
              simp only [List.take, List.drop]
              repeat (refine wpUp_step (fun K hK => ?_); go_simp; (try simp only [↓IntWalk.iteOmega]); first
                | (refine hK _ _ ?_; clear hK K)
                | (apply stepU_c
                   · intro wq hwq; (have hbq := bcell hwq; (repeat (first | refine fills_no (by rfl) ?_ | refine fills_yes (by rfl) (fun vq hvq => ?_))); simp only [List.filter_nil, fills]; unfold upAt; (try ((have x0 := hbq.1 g (j * 2) (by simp; omega); have x1 := hbq.1 g (j * 2 + 1) (by simp; omega)))); go_simp; (try go_bits); (try simp only [↓IntWalk.iteOmega]); (try (rw [dif_pos (by omega)]; go_simp; try go_bits)); first | exact upOut_value)
                   go_simp; refine hK _ _ ?_; clear hK K))
              refine wpUp_nil (fun wq hwq => ?_)
              simp only [fills]
              go_wp2
              go_ret
              exact ⟨ret_bool HN.out.symm, (hup.alloc _).trans hwq⟩
            · by_cases e2 : y ≤ y'
              · have HN : Hid (validP ps = false) := validP_no hlt (by rw [HZ.out]; simp; omega)
                go_wp2
                refine wp_region_up 24 (by kernel_rfl) (by kernel_rfl) ?_
                simp only [List.take, List.drop]
                repeat (refine wpUp_step (fun K hK => ?_); go_simp; (try simp only [↓IntWalk.iteOmega]); first
                  | (refine hK _ _ ?_; clear hK K)
                  | (apply stepU_c
                     · intro wq hwq; (have hbq := bcell hwq; (repeat (first | refine fills_no (by rfl) ?_ | refine fills_yes (by rfl) (fun vq hvq => ?_))); simp only [List.filter_nil, fills]; unfold upAt; (try ((have x0 := hbq.1 g (j * 2) (by simp; omega); have x1 := hbq.1 g (j * 2 + 1) (by simp; omega)))); go_simp; (try go_bits); (try simp only [↓IntWalk.iteOmega]); (try (rw [dif_pos (by omega)]; go_simp; try go_bits)); first | exact upOut_value)
                     go_simp; refine hK _ _ ?_; clear hK K))
                refine wpUp_nil (fun wq hwq => ?_)
                simp only [fills]
                go_wp2
                go_ret
                exact ⟨ret_bool HN.out.symm, (hup.alloc _).trans hwq⟩
              · have HP : Hid (plcB ps (j + 1) = true) := by unfold Hid; rw [HZ.out]; simp; omega
                go_wp2
                refine wp_region_up 24 (by kernel_rfl) (by kernel_rfl) ?_
                simp only [List.take, List.drop]
                repeat (refine wpUp_step (fun K hK => ?_); go_simp; (try simp only [↓IntWalk.iteOmega]); first
                  | (refine hK _ _ ?_; clear hK K)
                  | (apply stepU_c
                     · intro wq hwq; (have hbq := bcell hwq; (repeat (first | refine fills_no (by rfl) ?_ | refine fills_yes (by rfl) (fun vq hvq => ?_))); simp only [List.filter_nil, fills]; unfold upAt; (try ((have x0 := hbq.1 g (j * 2) (by simp; omega); have x1 := hbq.1 g (j * 2 + 1) (by simp; omega)))); go_simp; (try go_bits); (try simp only [↓IntWalk.iteOmega]); (try (rw [dif_pos (by omega)]; go_simp; try go_bits)); first | exact upOut_value)
                     go_simp; refine hK _ _ ?_; clear hK K))
                refine wpUp_nil (fun wq hwq => ?_)
                simp only [fills]
                go_wp2
                go_roundw
                case rel => exact ⟨j + 1 + 1, by omega, by go_num, NX.out HP.out, (hup.alloc _).trans hwq⟩
                case measure => simp [intOf]; omega
        · have HN : Hid (validP ps = false) := validP_no hlt (plcB_no1 hlt hb)
          clear hrd
          generalize ps[k].place = x at *
          generalize ps[k].start = y at *
          by_cases q1 : x < 0
          · go_wp2
            go_ret
            exact ⟨ret_bool HN.out.symm, hup.alloc _⟩
          · by_cases q2 : 4000 < x
            · go_wp2
              go_ret
              exact ⟨ret_bool HN.out.symm, hup.alloc _⟩
            · by_cases q3 : y < 0
              · go_wp2
                go_ret
                exact ⟨ret_bool HN.out.symm, hup.alloc _⟩
              · have q4 : 2000 < y := by omega
                clear hb
                go_wp2
                go_ret
                exact ⟨ret_bool HN.out.symm, hup.alloc _⟩
      · have e : k = ps.length := by omega
        have HN : Hid (validP ps = true) := validP_yes (by omega) (fun i hi => HA.out i (by omega))
        go_wp2
        go_ret
        exact ⟨ret_bool HN.out.symm, hup⟩

end Go.Proofs.Ythemmoecocjpjaa

/- Walk of the reference's l5Index. Conditions: the places can be read. -/
namespace Go.Proofs.Ythemmoecocjpjaa
set_option linter.unusedVariables false
set_option linter.unusedSimpArgs false
open Go.RowKit

end Go.Proofs.Ythemmoecocjpjaa

/- Walks of SeekBlock, the program's and the reference's. Conditions: the places can be read. -/
namespace Go.Proofs.Ythemmoecocjpjaa
set_option linter.unusedVariables false
set_option linter.unusedSimpArgs false
open Go.RowKit

def seekV (ps : List PlaceD) (o : Int) : Int := if validP ps then seekK ps o ps.length else -1

set_option maxRecDepth 100000 in
set_option maxHeartbeats 1000000 in
theorem seekI_any (ps : List PlaceD) (v : Value) (base : Nat) (o : Int) (w : World) (hown : w.ownsRow base 46 2 v ps.length (cellsP ps)) (hl : ps.length ≤ 1048576) :
    Calls Try.prog 35 #[v, .int .i64 o] w (Same (.int .i64 (seekV ps o)) w) := by
  obtain ⟨a, ca, rfl, hm, -⟩ := ownsRow_any hown
  cases hv : validP ps
  · have e : Hid (seekV ps o = -1) := by unfold Hid seekV; rw [hv]; rfl
    have cV := fun w h => validI_any ps (.slice a ps.length ca) base w h hl
    rw [hv] at cV
    rw [e.out]
    clear hv
    go_enter Try.func35, Try.ntmps35
    go_wp2_with fail
    (with_reducible refine (cV _ hown).mono ?_); rintro e w1 ⟨rfl, U1⟩
    go_wp2
    go_ret
    exact ⟨rfl, U1⟩
  · have e : Hid (seekV ps o = seekK ps o ps.length) := by unfold Hid seekV; rw [hv]; rfl
    have cV := fun w h => validI_any ps (.slice a ps.length ca) base w h hl
    rw [hv] at cV
    rw [e.out]
    clear hv
    go_enter Try.func35, Try.ntmps35
    go_wp2_with fail
    (with_reducible refine (cV _ hown).mono ?_); rintro e w1 ⟨rfl, U1⟩
    go_wp2
    go_loopw [5, 13] (fun f i wr => RelK ps o w1 f i wr) (fun _ i _ => ps.length - (intOf i).toNat)
    case atStart => exact ⟨0, Nat.zero_le _, rfl, rfl, Up.refl _⟩
    case round =>
      obtain ⟨k, hk, rfl, rfl, hup⟩ := hrel
      by_cases hlt : k < ps.length
      · obtain ⟨g, rfl, hc1, hc2, -, hg⟩ := ownsRow_slot hown (by omega)
        obtain ⟨c0, c1⟩ := plc_cells' (read_cells (ownsRow_up (ownsRow_up hown U1) hup)) hlt
        by_cases hp : ps[k].start ≤ o
        · have HS := Lib.hid (seekK_hit hlt hp)
          go_wp2
          go_roundw
          case rel => exact ⟨k + 1, by omega, by go_num, by rw [HS.out], hup.alloc _⟩
          case measure => simp [intOf]; omega
        · have HS := Lib.hid (seekK_miss hlt hp)
          go_wp2
          go_roundw
          case rel => exact ⟨k + 1, by omega, by go_num, by rw [HS.out], hup.alloc _⟩
          case measure => simp [intOf]; omega
      · have e : k = ps.length := by omega
        subst e
        go_wp2
        go_ret
        exact ⟨rfl, U1.trans hup⟩

end Go.Proofs.Ythemmoecocjpjaa

/- Plain: a range within the data of a container touches the blocks from that with its first byte to that with its last byte. Conditions: the blocks are those of a container. -/
namespace Go.Proofs.Ythemmoecocjpjaa
set_option linter.unusedVariables false
set_option linter.unusedSimpArgs false
open Go.RowKit

theorem sums_lt {l : List BlkD} (hok : accOk l) {i : Nat} (h : i < l.length) : sizeSum (l.take i) < sizeSum (l.take (i + 1)) := by
  have := (hok.2 l[i] (List.getElem_mem h)).1
  rw [sizeSum_take h]; omega
theorem sums_le {l : List BlkD} (hok : accOk l) {i j : Nat} (h : i ≤ j) (hj : j ≤ l.length) : sizeSum (l.take i) ≤ sizeSum (l.take j) := by
  induction j with
  | zero => rw [show i = 0 by omega]; omega
  | succ j ih =>
    rcases Nat.lt_or_ge i (j + 1) with hl | hl
    · have := sums_lt hok (i := j) (by omega)
      have := ih (by omega) (by omega)
      omega
    · rw [show i = j + 1 by omega]; omega
theorem placesK_at {l : List BlkD} {n k : Nat} (h : k < (placesK l n).length) : (placesK l n)[k] = ⟨bytesSum (l.take k), sizeSum (l.take k)⟩ := by
  rw [placesK_length] at h
  have := placesK_get l n k h
  rw [List.getElem?_eq_getElem (by rw [placesK_length]; exact h)] at this
  exact Option.some.inj this
theorem places_valid {l : List BlkD} (hok : accOk l) (hs : sizeSum l ≤ 2000) : validP (placesK l l.length) = true := by
  have hl := placesK_length l l.length
  refine validP_yes (by rw [hl]; exact hok.1) fun i hi => ?_
  have hin : i < l.length := by rw [hl] at hi; exact hi
  cases i with
  | zero =>
    rw [plcB_zero hi, placesK_at hi]
    simp [bytesSum, sizeSum]
  | succ i =>
    rw [plcB_succ hi, placesK_at hi, placesK_at]
    obtain ⟨h1, h2⟩ := sizeSum_bd (accOk_take hok (i + 1))
    obtain ⟨h3, h4⟩ := bytesSum_bd (accOk_take hok (i + 1))
    have h5 := sums_lt hok (i := i) (by omega)
    have h6 := bytesSum_take (l := l) (k := i) (by omega)
    have h7 := sums_le hok (i := i + 1) (j := l.length) (by omega) (Nat.le_refl _)
    rw [List.take_length] at h7
    have h8 : (l.take (i + 1)).length ≤ 40 := by have := hok.1; rw [List.length_take]; omega
    simp only [decide_eq_true_eq]
    omega
theorem find_block {l : List BlkD} (hok : accOk l) {o : Int} (h0 : 0 ≤ o) : ∀ k, k ≤ l.length → o < sizeSum (l.take k) → ∃ f, f < k ∧ sizeSum (l.take f) ≤ o ∧ o < sizeSum (l.take (f + 1)) := by
  intro k
  induction k with
  | zero => intro _ h; simp [sizeSum] at h; omega
  | succ k ih =>
    intro hk h
    rcases Int.lt_or_le o (sizeSum (l.take k)) with hl | hl
    · obtain ⟨f, h1, h2⟩ := ih (by omega) hl
      exact ⟨f, by omega, h2⟩
    · exact ⟨k, by omega, hl, h⟩
theorem seekK_at {l : List BlkD} (hok : accOk l) {o : Int} {f : Nat} (h1 : sizeSum (l.take f) ≤ o) (h2 : o < sizeSum (l.take (f + 1))) : ∀ k, f < k → k ≤ l.length → seekK (placesK l l.length) o k = f := by
  intro k
  induction k with
  | zero => intro h; omega
  | succ k ih =>
    intro hf hk
    have hkl : k < (placesK l l.length).length := by rw [placesK_length]; omega
    rcases Nat.lt_or_ge f k with hl | hl
    · rw [seekK_miss hkl (by rw [placesK_at hkl]; have := sums_le hok (i := f + 1) (j := k) (by omega) (by omega); simp only []; omega)]
      exact ih hl (by omega)
    · have e : f = k := by omega
      subst e
      exact seekK_hit hkl (by rw [placesK_at hkl]; exact h1)
theorem touch_range {l : List BlkD} (hok : accOk l) {a b : Int} {f g : Nat} (hab : a < b) (hf : f < l.length) (hg : g < l.length) (h1 : sizeSum (l.take f) ≤ a) (h2 : a < sizeSum (l.take (f + 1))) (h3 : sizeSum (l.take g) ≤ b - 1) (h4 : b - 1 < sizeSum (l.take (g + 1))) :
    ∀ k, k ≤ l.length → touchK l a b k = (List.range (min k (g + 1) - f)).map fun (j : Nat) => (f : Int) + j := by
  intro k
  induction k with
  | zero => intro _; simp [touchK]
  | succ k ih =>
    intro hk
    have hi := ih (by omega)
    by_cases hkf : k < f
    · have hm : hitB l a b k = false := by
        rw [hitB_not]
        have := sums_le hok (i := k + 1) (j := f) (by omega) (by omega)
        omega
      rw [touchK_miss hm, hi, show min k (g + 1) - f = 0 by omega, show min (k + 1) (g + 1) - f = 0 by omega]
    · by_cases hkg : k ≤ g
      · have hm : hitB l a b k = true := by
          rw [hitB_iff]
          have := sums_le hok (i := f + 1) (j := k + 1) (by omega) (by omega)
          have := sums_le hok (i := k) (j := g) (by omega) (by omega)
          omega
        rw [touchK_hit hm, hi, show min k (g + 1) - f = k - f by omega, show min (k + 1) (g + 1) - f = (k - f) + 1 by omega, List.range_succ, List.map_append]
        simp only [List.map_cons, List.map_nil]
        rw [show (f : Int) + ((k - f : Nat) : Int) = k by omega]
      · have hm : hitB l a b k = false := by
          rw [hitB_not]
          have := sums_le hok (i := g + 1) (j := k) (by omega) (by omega)
          omega
        rw [touchK_miss hm, hi, show min k (g + 1) - f = min (k + 1) (g + 1) - f by omega]
/-- What the touched blocks of a range within the data are. -/
theorem touch_within {l : List BlkD} (hok : accOk l) (hs : sizeSum l ≤ 2000) {a b : Int} (h0 : 0 ≤ a) (hab : a < b) (hb : b ≤ sizeSum l) :
    ∃ f g : Nat, f ≤ g ∧ g < l.length ∧ seekV (placesK l l.length) a = f ∧ seekV (placesK l l.length) (b - 1) = g ∧ touchK l a b l.length = (List.range (g + 1 - f)).map fun (j : Nat) => (f : Int) + j := by
  have hv := places_valid hok hs
  obtain ⟨f, f1, f2, f3⟩ := find_block hok h0 l.length (Nat.le_refl _) (by rw [List.take_length]; omega)
  obtain ⟨g, g1, g2, g3⟩ := find_block hok (o := b - 1) (by omega) l.length (Nat.le_refl _) (by rw [List.take_length]; omega)
  have hfg : f ≤ g := by
    rcases Nat.lt_or_ge g f with h | h
    · have := sums_le hok (i := g + 1) (j := f) (by omega) (by omega); omega
    · exact h
  refine ⟨f, g, hfg, g1, ?_, ?_, ?_⟩
  · unfold seekV; rw [hv, if_pos rfl, placesK_length]; exact seekK_at hok f2 f3 _ f1 (Nat.le_refl _)
  · unfold seekV; rw [hv, if_pos rfl, placesK_length]; exact seekK_at hok g2 g3 _ g1 (Nat.le_refl _)
  · rw [touch_range hok hab f1 g1 f2 f3 g2 g3 l.length (Nat.le_refl _), show min l.length (g + 1) - f = g + 1 - f by omega]

end Go.Proofs.Ythemmoecocjpjaa
