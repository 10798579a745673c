/- Texts joined into one: the walks and laws that the last text leans on. Conditions: as each says. -/
import Derived.Test.YtekbbnkkninolaaGreatSets
import Derived.Test.YtekbbnkkninolaaGreatBa
import Derived.Test.YtekbbnkkninolaaGreatTree5
import Derived.Test.YtekbbnkkninolaaGreatTree6
import Derived.Test.YtekbbnkkninolaaGreatFu
import Derived.Test.YtekbbnkkninolaaGreatTree7
import Derived.Test.YtekbbnkkninolaaGreatGw
import Derived.Test.YtekbbnkkninolaaGreatWc
import Derived.SliceStrings
import Derived.Test.YtekbbnkkninolaaGreatWd
import Derived.Test.YtekbbnkkninolaaGreatGlen
import Derived.Test.YtekbbnkkninolaaGreatComp
import Derived.Test.YtekbbnkkninolaaGreatBlkOf
import Derived.Test.YtekbbnkkninolaaGreatUn1
import Derived.Test.YtekbbnkkninolaaGreatRc2
import Derived.Test.YtekbbnkkninolaaGreatRt
import Derived.Shelf.Strings.Builder1
import Derived.Test.YtekbbnkkninolaaGreatShelf
import Derived.Test.YtekbbnkkninolaaGreatDraw6
import Derived.Test.YtekbbnkkninolaaGreatStartW

/- Walks of the reference's draws of a block, from the bytes of an input. Conditions: the bytes can be read. -/
namespace Go.Proofs.YtekbbnkkninolaaGreat
set_option linter.unusedVariables false
set_option linter.unusedSimpArgs false
open Go Go.RowKit

/-- Bytes that are handed in. -/
def ArgU (w : World) (v : Value) (l : List UInt8) : Prop := ∃ (a : Option Addr) (cap : Nat), v = .slice a l.length cap ∧ l.length ≤ cap ∧ cap ≤ maxLen ∧
  (0 < l.length → ∃ b off, a = some ⟨b, off, none⟩ ∧ b < w.heap.size ∧ ∀ i x, l[i]? = some x → w.cell? ⟨b, off + i, none⟩ = some (.int .u8 x.toNat))
theorem ArgU.up {w w' : World} {v : Value} {l : List UInt8} (h : ArgU w v l) (hu : Up w w') : ArgU w' v l := by
  obtain ⟨a, cap, h1, h2, h3, h4⟩ := h
  refine ⟨a, cap, h1, h2, h3, fun hp => ?_⟩
  obtain ⟨b, off, e1, e2, e3⟩ := h4 hp
  exact ⟨b, off, e1, Nat.lt_of_lt_of_le e2 (Below.size hu), fun i x hi => (Below.cell (p := ⟨b, off + i, none⟩) hu e2).trans (e3 i x hi)⟩
theorem open_at {w : World} {v : Value} {l : List UInt8} (h : ArgU w v l) : Calls Tryz.prog 77  #[v] w (fun e w' => ∃ B, e = .returned (.pointer (some ⟨w.heap.size, 0, none⟩)) ∧ Rdr w.heap.size B w' 0 ∧ Up w w') := by
  obtain ⟨a, cap, h1, h2, h3, h4⟩ := h
  exact open_any v l w a cap h1 h2 h3 h4
end Go.Proofs.YtekbbnkkninolaaGreat

/- Texts joined into one: Eqb, Law. Conditions: as each says. -/

/- Walks of the laws' helpers that take a setting over and compare blocks. Conditions: none. -/
namespace Go.Proofs.YtekbbnkkninolaaGreat
set_option linter.unusedVariables false
set_option linter.unusedSimpArgs false
open Go Go.RowKit

end Go.Proofs.YtekbbnkkninolaaGreat

/- The end of every law's row: the call answers true and nothing that was there has turned. Conditions: those of post_law. -/
namespace Go.Proofs.YtekbbnkkninolaaGreat
set_option linter.unusedVariables false
set_option linter.unusedSimpArgs false
open Go.ChangeShapes Go.WideShapes Go.ChangeAt Go.RowKit

theorem TryzlaidOut : laidOutB Tryz.prog = true := by kernel_rfl
theorem own : ownKnob Tryz.prog.godebug = none := by kernel_rfl

theorem trodAll_up {H : Type} {enc : TypeId × Value → H} {P : Program} (hl : laidOutB P = true) {W W' : World} (hb : Below W.heap.size W W') : ∀ (ts : List TypeId) (vs : List Value) (ds : List (DataW H)) (ps : List MemPlace),
    (∀ t ∈ ts, P.readableRec t = true ∧ t < P.types.size) → (∀ x ∈ ps, x.block < W.heap.size) → DataW.TrodAll enc P W 0 (fun _ => true) true ts vs ds ps → DataW.TrodAll enc P W' 0 (fun b => decide (b < W.heap.size)) true ts vs ds ps
  | [], [], [], _, _, _, h => h
  | t :: ts, v :: vs, d :: ds, ps, ht, hp, h => by
    obtain ⟨p, q, h1, h2, rfl⟩ := h
    refine ⟨p, q, Below.trod hl (ht t (List.mem_cons_self ..)).1 (ht t (List.mem_cons_self ..)).2 h1 hb fun x hx => hp x (List.mem_append_left _ hx), ?_, rfl⟩
    exact trodAll_up hl hb ts vs ds q (fun t h => ht t (List.mem_cons_of_mem _ h)) (fun x hx => hp x (List.mem_append_right _ hx)) h2
  | [], _ :: _, _, _, _, _, h => h.elim
  | _ :: _, [], _, _, _, _, h => h.elim
  | [], [], _ :: _, _, _, _, h => h.elim
  | _ :: _, _ :: _, [], _, _, _, h => h.elim

theorem post_law {H : Type} {enc : TypeId × Value → H} {P : Program} {f : Func} {s : ChangeSpec} {W W' : World} {args : Array Value} {ds gs : List (DataW H)} {before : List MemPlace} {tb : TypeId}
    (hl : laidOutB P = true) (hp : (f.params.all fun t => P.readableRec t && decide (t < P.types.size)) = true) (hrt : f.resultTypes = #[tb]) (htb : P.underlying tb = some .bool) (hvars : s.vars = [])
    (hW : DataW.Whole enc P f.params.toList s.vars false W args.toList ds gs before) (hs : ∀ ds' : List (DataW H), ds' = ds → (s.fn H ds').results = [.lit (.bool true)] ∧ (s.fn H ds').args = ds ∧ (s.fn H ds').vars = []) (hb : Up W W') :
    s.post enc P f false true false false W args (.bool true) W' := by
  have hlt := fun p hp => hW.lt (p := p) hp
  obtain ⟨p, q, hA, hV, rfl, hz, hn⟩ := id hW
  rw [hvars] at hV
  obtain ⟨rfl, rfl⟩ := trodVars_none hV
  obtain ⟨e1, e2, e3⟩ := hs (ds ++ []) (by simp)
  refine ⟨ds, [], p ++ [], [], p, [], hW, ?_, ?_, ?_, ?_, fun h => by cases h⟩
  · rw [e1, hrt]
    exact trodAll_mk1 (shut_bool htb true)
  · rw [e2]
    refine trodAll_up hl hb _ _ _ _ (fun t ht => ?_) (fun x hx => hlt x (by simpa using hx)) hA
    have := Array.all_eq_true_iff_forall_mem.1 hp t (by simpa using ht)
    simpa using this
  · rw [e3, hvars]
    rfl
  · exact hb.frame _

end Go.Proofs.YtekbbnkkninolaaGreat

/- Arguments that are slices of bytes, and a string repeated. Conditions: as each says. -/
namespace Go.Proofs.YtekbbnkkninolaaGreat
set_option linter.unusedVariables false
set_option linter.unusedSimpArgs false
open Go.ChangeShapes Go.WideShapes Go.ChangeAt Go.RowKit Go.Joins
open Go.ChangeMaps (open_string shut_string)

theorem open_argU {H : Type} {enc : TypeId × Value → H} {W : World} {fuel : Nat} {a0 : Option Addr} {len cap : Nat} {d : DataW H} {p : List MemPlace}
    (h : DataW.trod enc Tryz.prog W 0 (fun _ => true) true fuel 38 [.slice a0 len cap] = some (d, p)) (hlt : ∀ x ∈ p, x.block < W.heap.size) : ∃ l, ArgU W (.slice a0 len cap) l := by
  rcases open_ints Tryz.underlying38 Tryz.underlying5 (by kernel_rfl) h with ⟨hcs, hx⟩ | ⟨a, len', cap', zs, hcs, _, hl, hm, hz, hx, hcell, hwz⟩
  · simp only [List.cons.injEq, and_true] at hcs
    cases hcs
    exact ⟨[], none, 0, rfl, Nat.le_refl _, by unfold maxLen; omega, fun h => absurd h (Nat.lt_irrefl _)⟩
  · simp only [List.cons.injEq, and_true] at hcs
    cases hcs
    simp only [Prod.mk.injEq] at hx
    obtain ⟨rfl, rfl⟩ := hx
    simp only [if_true] at hz
    have hlen : ((zs.take len).map fun n => UInt8.ofNat n.toNat).length = len := by simp; omega
    refine ⟨(zs.take len).map fun n => UInt8.ofNat n.toNat, some a, cap, by rw [hlen], by rw [hlen]; exact hl, hm, fun hp => ?_⟩
    rw [hlen] at hp
    obtain ⟨b, off, spot⟩ := a
    have hspot : spot = none := by simpa [Addr.add] using World.cell?_spot (hcell 0 (by omega))
    subst hspot
    refine ⟨b, off, rfl, hlt (.cell b off) (by simp only [MemPlace.row, List.mem_map, List.mem_range]; exact ⟨0, by omega, rfl⟩), fun i x hi => ?_⟩
    have hil : i < len := by
      have := (List.getElem?_eq_some_iff.1 hi).1
      rw [hlen] at this; exact this
    have hcj := hcell i (by omega)
    rw [Addr.add_lit] at hcj
    rw [hcj]
    have hb := range_u8 hwz i
    have e : zs.getD i 0 = zs[i]'(by omega) := by simp [List.getD, List.getElem?_eq_getElem (show i < zs.length by omega)]
    rw [List.getD_eq_getElem?_getD] at e ⊢
    rw [e] at hb ⊢
    have hx : x = UInt8.ofNat (zs[i]'(by omega)).toNat := by
      have : i < zs.length := by omega
      simp [List.getElem?_take, hil, this] at hi
      exact hi.symm
    rw [hx]
    congr 2
    simp only [UInt8.toNat_ofNat']
    omega

end Go.Proofs.YtekbbnkkninolaaGreat

/- Walk of the reference's l5Places. Conditions: the blocks are those of a string (accOk) and can be read. -/
namespace Go.Proofs.YtekbbnkkninolaaGreat
set_option linter.unusedVariables false
set_option linter.unusedSimpArgs false
open Go.RowKit

structure PlaceD where
  place : Int
  start : Int
end Go.Proofs.YtekbbnkkninolaaGreat

/- Walks of the reference's draws of data that may not fit, of settings that may not be valid, of dictionaries. Conditions: the reader is one (Rdr), its place is bounded. -/
namespace Go.Proofs.YtekbbnkkninolaaGreat
set_option linter.unusedVariables false
set_option linter.unusedSimpArgs false
open Go Go.RowKit

def isSetB (v : Value) : Prop := ∃ s : SetD, v = setV s ∧ (-9223372036854775808 ≤ s.lit ∧ s.lit ≤ 9223372036854775807)
theorem isSetB_mk (a b c : Int) (h : -9223372036854775808 ≤ b ∧ b ≤ 9223372036854775807) : isSetB (.agg #[.int .i64 a, .int .i64 b, .int .i64 c]) := ⟨⟨a, b, c⟩, rfl, h⟩

set_option maxRecDepth 100000 in
set_option maxHeartbeats 4000000 in
theorem l1BadB_any (rb : Nat) (B : Value) (s : SetD) (w : World) (N : Nat) (h : Rdr rb B w N) (hN : N ≤ 1000000000) (hs : setOk s = true) :
    Calls Tryz.prog 91  #[.pointer (some ⟨rb, 0, none⟩), setV s] w (Drawn rb B 2 isSetB w) := by
  have hlt := h.lt
  have HR := Lib.hid h
  have hne0 : ¬ w.heap.size = rb := by omega
  have hne1 : ¬ w.heap.size + 1 = rb := by omega
  have hU := RdUp.refl rb B 0 w
  have e1 : w.heap.size < w.heap.size + 1 := by omega
  have e2 : w.heap.size < w.heap.size + 1 + 1 := by omega
  have e3 : w.heap.size + 1 < w.heap.size + 1 + 1 := by omega
  have hlb := (setOk_bd hs).2.1
  obtain ⟨hlb1, hlb2⟩ := hlb
  clear hs
  simp only [setV]
  go_enter Tryz.func91, Tryz.ntmps91
  go_wp2_with (first | (go_at_call 105; ((with_reducible refine (num_at ([-1, 2]) HR.out hU (by intro c hU; (repeat (first | with_reducible assumption | refine RdUp.ups ?_ (by with_reducible assumption) | with_reducible refine RdUp.set ?_ (by first | exact Nat.le_refl _ | (simp only []; omega) | (simp; omega)) _ | with_reducible refine RdUp.alloc ?_ _ | with_reducible refine RdUp.drew ?_ | with_reducible exact RdUp.of (Up.refl _)))) (by omega) (by first | rfl | (simp; done) | fail) (by first | rfl | (simp; done) | fail) (by first | rfl | (simp; done) | fail) (by simp) (by simp) (by first | rfl | (simp; done) | fail)).mono ?_); rintro e w' ⟨i, rfl, hi, hU, U⟩; have D := gcell U.1; have Z := U.1.size; (try simp at Z); (try have Y0 : w.heap.size < w'.heap.size := (by omega)); (try have Y1 : w.heap.size + 1 < w'.heap.size := (by omega)); (try have Y2 : w.heap.size + 1 + 1 < w'.heap.size := (by omega)); (try have X0 : w.heap.size < w'.heap.size + 1 := (by omega)); (try have X1 : w.heap.size + 1 < w'.heap.size + 1 := (by omega)); (try have X2 : w.heap.size + 1 + 1 < w'.heap.size + 1 := (by omega)); (clear hi))) | (go_at_call 105; ((with_reducible refine (num_at ([0, 9, -1, 9223372036854775807]) HR.out hU (by intro c hU; (repeat (first | with_reducible assumption | refine RdUp.ups ?_ (by with_reducible assumption) | with_reducible refine RdUp.set ?_ (by first | exact Nat.le_refl _ | (simp only []; omega) | (simp; omega)) _ | with_reducible refine RdUp.alloc ?_ _ | with_reducible refine RdUp.drew ?_ | with_reducible exact RdUp.of (Up.refl _)))) (by omega) (by first | rfl | (simp; done) | fail) (by first | rfl | (simp; done) | fail) (by first | rfl | (simp; done) | fail) (by simp) (by simp) (by first | rfl | (simp; done) | fail)).mono ?_); rintro e w' ⟨i, rfl, hi, hU, U⟩; have D := gcell U.1; have Z := U.1.size; (try simp at Z); (try have Y0 : w.heap.size < w'.heap.size := (by omega)); (try have Y1 : w.heap.size + 1 < w'.heap.size := (by omega)); (try have Y2 : w.heap.size + 1 + 1 < w'.heap.size := (by omega)); (try have X0 : w.heap.size < w'.heap.size + 1 := (by omega)); (try have X1 : w.heap.size + 1 < w'.heap.size + 1 := (by omega)); (try have X2 : w.heap.size + 1 + 1 < w'.heap.size + 1 := (by omega)); ((have hlx : -9223372036854775808 ≤ i ∧ i ≤ 9223372036854775807 := (by simp at hi; omega)); clear hi))) | (go_at_call 105; ((with_reducible refine (num_at ([s.lit + 1, 11, -1, -9223372036854775808]) HR.out hU (by intro c hU; (repeat (first | with_reducible assumption | refine RdUp.ups ?_ (by with_reducible assumption) | with_reducible refine RdUp.set ?_ (by first | exact Nat.le_refl _ | (simp only []; omega) | (simp; omega)) _ | with_reducible refine RdUp.alloc ?_ _ | with_reducible refine RdUp.drew ?_ | with_reducible exact RdUp.of (Up.refl _)))) (by omega) (by first | rfl | (simp; done) | fail) (by first | rfl | (simp; done) | fail) (by first | rfl | (simp; done) | fail) (by simp) (by simp) (by first | rfl | (simp; done) | fail)).mono ?_); rintro e w' ⟨i, rfl, hi, hU, U⟩; have D := gcell U.1; have Z := U.1.size; (try simp at Z); (try have Y0 : w.heap.size < w'.heap.size := (by omega)); (try have Y1 : w.heap.size + 1 < w'.heap.size := (by omega)); (try have Y2 : w.heap.size + 1 + 1 < w'.heap.size := (by omega)); (try have X0 : w.heap.size < w'.heap.size + 1 := (by omega)); (try have X1 : w.heap.size + 1 < w'.heap.size + 1 := (by omega)); (try have X2 : w.heap.size + 1 + 1 < w'.heap.size + 1 := (by omega)); (clear hi))) | (go_at_call 89; ((with_reducible refine (pick_at HR.out hU (by intro c hU; (repeat (first | with_reducible assumption | refine RdUp.ups ?_ (by with_reducible assumption) | with_reducible refine RdUp.set ?_ (by first | exact Nat.le_refl _ | (simp only []; omega) | (simp; omega)) _ | with_reducible refine RdUp.alloc ?_ _ | with_reducible refine RdUp.drew ?_ | with_reducible exact RdUp.of (Up.refl _)))) (by omega)).mono ?_); rintro e w' ⟨i, rfl, hi0, hi1, hU, U⟩; have D := gcell U.1; have Z := U.1.size; (try simp at Z); (try have Y0 : w.heap.size < w'.heap.size := (by omega)); (try have Y1 : w.heap.size + 1 < w'.heap.size := (by omega)); (try have Y2 : w.heap.size + 1 + 1 < w'.heap.size := (by omega)); (try have X0 : w.heap.size < w'.heap.size + 1 := (by omega)); (try have X1 : w.heap.size + 1 < w'.heap.size + 1 := (by omega)); (try have X2 : w.heap.size + 1 + 1 < w'.heap.size + 1 := (by omega)))))
  all_goals
    have q0 : w'.cell? ⟨w.heap.size + 1, 0, none⟩ = some (.int .i64 0) := by simp [go_sem, *]
    have q1 : w'.cell? ⟨w.heap.size + 1, 1, none⟩ = some (.int .i64 0) := by simp [go_sem, *]
    have q2 : w'.cell? ⟨w.heap.size + 1, 2, none⟩ = some (.int .i64 0) := by simp [go_sem, *]
    refine bodyPost_ret (v := _) (by simp [results, Tryz.results91, go_sem, q0, q1, q2]; rfl) rfl ?_
    refine ⟨_, rfl, isSetB_mk _ _ _ (by first | omega | assumption), ?_⟩
    exact RdUp.fin hU (by intro c hU; (repeat (first | with_reducible assumption | refine RdUp.ups ?_ (by with_reducible assumption) | with_reducible refine RdUp.set ?_ (by first | exact Nat.le_refl _ | (simp only []; omega) | (simp; omega)) _ | with_reducible refine RdUp.alloc ?_ _ | with_reducible refine RdUp.drew ?_ | with_reducible exact RdUp.of (Up.refl _)))) (by omega)


theorem upOut_ex {f : FuncId} {args : Array Value} {w : World} {D : Value → Prop} (h : Calls Tryz.prog f args w (fun e w' => ∃ v, e = .returned v ∧ Up w w' ∧ D v)) : upOut Tryz.prog (fun v _ => D v) w (.ok (.enter f args) w) := ⟨rfl, h⟩
theorem RdInts.gr {rb : Nat} {w w' : World} {v : Value} {l : List Int} (h : RdInts rb w v l) (hg : w.grownBy w' (some rb)) : RdInts rb w' v l := by
  obtain ⟨b, off, cap, h1, h2, h3, h4, h5, h6⟩ := h
  exact ⟨b, off, cap, h1, h2, h3, Nat.lt_of_lt_of_le h4 hg.size, h5, fun i x hi => ((gcell hg).1 b _ h4 (fun e => h5 (Option.some.inj e))).trans (h6 i x hi)⟩
theorem rdInts_new {rb : Nat} {w : World} {T : TypeId} (l : List Int) {cs : Array Value} (hcs : cs = (l.map (Value.int .i64)).toArray) (hl : l.length ≤ 100) {n cap : Nat} (hn : n = l.length) (hc : cap = n) (hlt : rb < w.heap.size) : RdInts rb (w.alloc (.cells cs T)) (.slice (some ⟨w.heap.size, 0, none⟩) n cap) l := by
  subst hcs hc hn
  refine ⟨w.heap.size, 0, l.length, rfl, Nat.le_refl _, by unfold maxLen; omega, by simp, by omega, fun i x hi => ?_⟩
  rw [box_cell (MapKept.heap_alloc w _).1, Nat.zero_add]
  simp [hi]
theorem many_str (s : ByteArray) (i : Int) (M : Nat) (h0 : 0 ≤ i) (h1 : i ≤ M) (hM : M ≤ 2001) (hs : s.size ≤ 1) (w : World) : Calls Tryz.prog 106  #[.string s, .int .i64 i] w (fun e w' => ∃ v, e = .returned v ∧ Up w w' ∧ IsStr M v) := by
  obtain ⟨n, rfl⟩ := Int.eq_ofNat_of_zero_le h0
  have hn : n ≤ M := by omega
  have hb : n * s.size ≤ n := by
    have := Nat.mul_le_mul_left n hs
    omega
  refine (l9Many_any s n w (by omega) (by omega) (by omega)).mono fun e w' ⟨he, hw⟩ => ⟨_, he, hw ▸ Up.refl _, _, rfl, ?_⟩
  rw [bs_size, rep_length, ba_len]; omega

set_option maxRecDepth 100000 in
set_option maxHeartbeats 8000000 in
theorem l1Wild_any (rb : Nat) (B : Value) (d : ByteArray) (w : World) (N : Nat) (h : Rdr rb B w N) (hN : N ≤ 900000000) (hd : d.size ≤ 1000) :
    Calls Tryz.prog 90  #[.pointer (some ⟨rb, 0, none⟩), .string d] w (Drawn rb B 10 (IsStr 2001) w) := by
  obtain ⟨p, hp, h, HM⟩ := h.least
  have hlt := h.lt
  have HR := Lib.hid h
  have hU := RdUp.refl rb B 0 w
  have hcv := conv_new1
  have hz255 : (strOfNums [255]).size = 1 := strOfNums_size _
  go_enter Tryz.func90, Tryz.ntmps90
  go_wp2_with (first | (go_at_call 89; ((with_reducible refine (pick_at (n := 40) HR.out hU (by intro c hU; (repeat (first | with_reducible assumption | refine RdUp.ups ?_ (by with_reducible assumption) | with_reducible refine RdUp.set ?_ (by first | exact Nat.le_refl _ | (simp only []; omega) | (simp; omega)) _ | with_reducible refine RdUp.alloc ?_ _ | with_reducible refine RdUp.drew ?_ | with_reducible exact RdUp.of (Up.refl _)))) (by omega)).mono ?_); rintro e w' ⟨x, rfl, x0, x1, hU, U⟩; have D := gcell U.1; have Z := U.1.size; (try simp at Z); (try have Y0 : w.heap.size < w'.heap.size := (by omega)); (try have Y1 : w.heap.size + 1 < w'.heap.size := (by omega)); (try have Y2 : w.heap.size + 1 + 1 < w'.heap.size := (by omega)); (try have X0 : w.heap.size < w'.heap.size + 1 := (by omega)); (try have X1 : w.heap.size + 1 < w'.heap.size + 1 := (by omega)); (try have X2 : w.heap.size + 1 + 1 < w'.heap.size + 1 := (by omega)); (skip))))
  all_goals first
    | (go_ret
       exact ⟨_, rfl, ⟨_, rfl, (by first | omega | (rw [ByteArray.size_append, strOfNums_size]; show _ + 1 ≤ _; omega))⟩, by exact RdUp.fin hU (by intro c hU; (repeat (first | with_reducible assumption | refine RdUp.ups ?_ (by with_reducible assumption) | with_reducible refine RdUp.set ?_ (by first | exact Nat.le_refl _ | (simp only []; omega) | (simp; omega)) _ | with_reducible refine RdUp.alloc ?_ _ | with_reducible refine RdUp.drew ?_ | with_reducible exact RdUp.of (Up.refl _)))) (by omega)⟩)
    | skip
  have hr2 := hU.2 _ h
  refine wp_region_rd 6 rb B 1 (p + (0 + 1)) (by kernel_rfl) (by kernel_rfl) hr2 ?_
  simp only [List.take, List.drop]
  repeat (refine wpR_step (fun K hK => ?_); go_simp; (try simp only [↓IntWalk.iteOmega]); first
    | (refine hK _ _ ?_; clear hK K)
    | (refine stepR_c ?_ ?_ ?_
       rotate_left
       · intro wq hwq hrq; (have hbq := gcell hwq; (repeat (first | refine fills_no (by rfl) ?_ | (refine fills_yes (by rfl) (fun vq hvq => ?_); (try ((first | ((with_reducible have hl : LitR rb vq wq := hvq); obtain ⟨x, hlv⟩ := litR_open hl) | ((with_reducible have hvi : RdInts rb wq vq [2000, 2001] := hvq)) | ((with_reducible have hvs : IsStr 1 vq := hvq); obtain ⟨sb, rfl, hsb⟩ := hvs) | ((with_reducible have hvo : oneOf [2000, 2001] vq := hvq); obtain ⟨i, rfl, hi9⟩ := hvo))))))); simp only [List.filter_nil, fills]; unfold upAt; (try (skip)); go_simp; (try go_bits); (try simp only [↓IntWalk.iteOmega]); (try (rw [dif_pos (by omega)]; go_simp; try go_bits)); first | exact upOut_value)
       go_simp; refine hK _ _ ?_; clear hK K)
    | (refine stepR_m (by kernel_rfl) ?_ ?_ (fun wq hwq hrq => ?_) ?_
       rotate_left 2
       · (have hbq := gcell hwq; (repeat (first | refine fills_no (by rfl) ?_ | (refine fills_yes (by rfl) (fun vq hvq => ?_); (try ((first | ((with_reducible have hl : LitR rb vq wq := hvq); obtain ⟨x, hlv⟩ := litR_open hl) | ((with_reducible have hvi : RdInts rb wq vq [2000, 2001] := hvq)) | ((with_reducible have hvs : IsStr 1 vq := hvq); obtain ⟨sb, rfl, hsb⟩ := hvs) | ((with_reducible have hvo : oneOf [2000, 2001] vq := hvq); obtain ⟨i, rfl, hi9⟩ := hvo))))))); simp only [List.filter_nil, fills]; unfold upAt; (try (skip)); go_simp; (try go_bits); (try simp only [↓IntWalk.iteOmega]); (try (rw [dif_pos (by omega)]; go_simp; try go_bits)); first | ((with_reducible refine upOut_D (LitR rb) ?_); (((with_reducible refine upOut_make ((Up.refl _).alloc _) ?_); exact litR_new hrq.lt (by omega) (by omega)))) | ((with_reducible refine upOut_D (fun v _ => IsStr 1 v) ?_); ((rw [litR_conv hlv]; (try go_simp); (with_reducible refine upOut_make (Up.refl _) ?_); exact ⟨_, rfl, by rw [strOfNums_size]; exact Nat.le_refl _⟩))) | ((with_reducible refine upOut_D ((fun v w => RdInts rb w v [2000, 2001])) ?_); (((with_reducible refine upOut_make ((Up.refl _).alloc _) ?_); exact rdInts_new [2000, 2001] rfl (by decide) rfl rfl hrq.lt))) | ((with_reducible refine upOut_D (fun v _ => IsStr 2001 v) ?_); ((with_reducible refine upOut_ex (many_str _ _ 2001 (by simp at hi9; omega) (by simp at hi9; omega) (by omega) hsb _)))))
       rotate_left
       · (first | exact (fun _ _ _ h _ => h) | exact (litR_closed) | exact ((fun v w w' h hg => RdInts.gr h hg)))
       refine hK _ _ ?_; clear hK K)
    | (refine stepR_d (by rfl) (by kernel_rfl) (fun v _ => oneOf [2000, 2001] v) (fun _ _ _ h _ => h) (fun wq hwq hrq => ?_) ?_
       · (have hbq := gcell hwq; (repeat (first | refine fills_no (by rfl) ?_ | (refine fills_yes (by rfl) (fun vq hvq => ?_); (try ((first | ((with_reducible have hl : LitR rb vq wq := hvq); obtain ⟨x, hlv⟩ := litR_open hl) | ((with_reducible have hvi : RdInts rb wq vq [2000, 2001] := hvq)) | ((with_reducible have hvs : IsStr 1 vq := hvq); obtain ⟨sb, rfl, hsb⟩ := hvs) | ((with_reducible have hvo : oneOf [2000, 2001] vq := hvq); obtain ⟨i, rfl, hi9⟩ := hvo))))))); simp only [List.filter_nil, fills]; unfold gAt; (try (skip)); go_simp; (try go_bits); (try simp only [↓IntWalk.iteOmega]); (try (rw [dif_pos (by omega)]; go_simp; try go_bits)); (with_reducible refine gOut_drawn ((num_any rb B [2000, 2001] _ wq _ hrq (by omega) hvi (by decide))) ?_); decide)
       refine hK _ _ ?_; clear hK K))
  refine wpR_nil (fun wq hwq hrq => ?_)
  simp only [fills]
  rintro v9 ⟨sb, rfl, hsb⟩
  intros
  have hU := RdUp.made (C := 10) HM (grownBy_trans hU.1 hwq) hrq (by omega)
  go_wp2
  rw [onlyN_normal]
  go_wp2
  go_ret
  exact ⟨_, rfl, ⟨_, rfl, hsb⟩, by exact RdUp.fin hU (by intro c hU; (repeat (first | with_reducible assumption | refine RdUp.ups ?_ (by with_reducible assumption) | with_reducible refine RdUp.set ?_ (by first | exact Nat.le_refl _ | (simp only []; omega) | (simp; omega)) _ | with_reducible refine RdUp.alloc ?_ _ | with_reducible refine RdUp.drew ?_ | with_reducible exact RdUp.of (Up.refl _)))) (by omega)⟩

end Go.Proofs.YtekbbnkkninolaaGreat

/- Walks of the reference's draws of blocks and containers. Conditions: the bytes can be read. -/
namespace Go.Proofs.YtekbbnkkninolaaGreat
set_option linter.unusedVariables false
set_option linter.unusedSimpArgs false
open Go Go.RowKit

abbrev litB (s : SetD) : Prop := -9223372036854775808 ≤ s.lit ∧ s.lit ≤ 9223372036854775807

theorem ownsRow_take {w : World} {base : Nat} {e : TypeId} {size n k cap : Nat} {a : Option Addr} {xs : List Value} (h : w.ownsRow base e size (.slice a n cap) n xs) (hk : k ≤ n) : w.ownsRow base e size (.slice a k cap) k (xs.take (k * size)) := by
  obtain ⟨h1, h2⟩ := h
  have hm := Nat.mul_le_mul_right size hk
  refine ⟨by rw [List.length_take, h1]; omega, ?_⟩
  rcases h2 with ⟨h3, h4⟩ | ⟨g, c, cur, h3, h4, h5, h6, h7, h8, h9⟩
  · cases h3
    exact .inl ⟨by rw [show k = 0 by omega], by omega⟩
  · cases h3
    exact .inr ⟨g, _, cur, rfl, h4, h5, by omega, h7, h8, by rw [← h9, List.take_take, Nat.min_eq_left hm]⟩
end Go.Proofs.YtekbbnkkninolaaGreat

/- Walk of the program's follow, which goes on behind a code. Conditions: the tree lies in memory, what is known is valid, the code can follow or is the clear code. -/
namespace Go.Proofs.YtekbbnkkninolaaGreat
set_option linter.unusedVariables false
set_option linter.unusedSimpArgs false
open Go Go.RowKit

/-- The last code is stored: nothing else of the tree turns. -/
theorem TreeAt.last {lo tb : Nat} {k k' : KnD} {vp vn vi : Value} {w : World} (h : TreeAt lo tb k vp vn vi w) (x : Int) (hs : k'.set = k.set) (hp : k'.ps = k.ps) (hb : k'.base = k.base) (hl : k'.last = x) : TreeAt lo tb k' vp vn vi (w.setCell ⟨tb, 5, none⟩ (.int .i64 x)) := by
  have ht : k'.tree = k.tree := by unfold KnD.tree KnD.c; rw [hs, hp]
  refine ⟨?_, h.low, ?_, ?_, ?_⟩
  · unfold TrBox
    rw [hs, hb, hl]
    exact box_set h.box 5 (.int .i64 x)
  · rw [hp]; exact ownsRow_setb h.prs (box_ne h.box h.prs (by decide)) 5 _
  · rw [ht]; exact ownsRow_setb h.nod (box_ne h.box h.nod (by decide)) 5 _
  · rw [ht]; exact ownsRow_setb h.idx (box_ne h.box h.idx (by decide)) 5 _
theorem TrPost.last {lo tb : Nat} {k k' : KnD} {vp vn vi : Value} {w w' : World} (h : TrPost lo tb k vp vn vi w w') (x : Int) (hs : k'.set = k.set) (hp : k'.ps = k.ps) (hb : k'.base = k.base) (hl : k'.last = x) : TrPost lo tb k' vp vn vi w (w'.setCell ⟨tb, 5, none⟩ (.int .i64 x)) := by
  obtain ⟨vp', vn', vi', h1, h2, h3⟩ := h
  exact ⟨vp', vn', vi', h1.last x hs hp hb hl, h2.set (p := ⟨tb, 5, none⟩) (.inl (.inl rfl)) _, h3⟩
theorem TrPost.pre {lo tb : Nat} {k : KnD} {vp vn vi : Value} {w w1 w' : World} (hu : Up w w1) (h : TrPost lo tb k vp vn vi w1 w') : TrPost lo tb k vp vn vi w w' := by
  obtain ⟨vp', vn', vi', h1, h2, h3⟩ := h
  exact ⟨vp', vn', vi', h1, (Fr.of _ hu).trans h2 (fun _ h => .inl h), fun b hb => (h3 b hb).imp id (fun h => Nat.le_trans hu.size h)⟩
theorem TrPost.refl {lo tb : Nat} {k : KnD} {vp vn vi : Value} {w : World} (h : TreeAt lo tb k vp vn vi w) : TrPost lo tb k vp vn vi w w := ⟨vp, vn, vi, h, Fr.refl _ _, fun _ h => .inl h⟩

set_option maxRecDepth 100000 in
set_option maxHeartbeats 4000000 in
theorem followC_any (lo tb : Nat) (k : KnD) (vp vn vi : Value) (w : World) (h : TreeAt lo tb k vp vn vi w) (hk : k.Tr) (hb0 : 0 ≤ k.base) (hb1 : k.base ≤ k.ps.length) :
    Calls Tryz.prog 136  #[.pointer (some ⟨tb, 0, none⟩), .int .i64 (k.c : Nat)] w (fun e w' => (∃ v, e = .returned v) ∧ TrPost lo tb k.cleared vp vn vi w w') := by
  have cK := fun w => clearI_any k.set w hk.set
  have cF := fun w hT => forget_any lo tb k vp vn vi w hT hk hb0 hb1
  obtain ⟨c0, c1, c2, c3, c4, c5, c6, c7⟩ := h.cells
  have htb := h.lt
  have ec : k.c = clr k.set := rfl
  have H := Lib.hid h
  rw [ec]
  clear h
  go_enter Tryz.func136, Tryz.ntmps136
  go_wp2_with (first | (go_at_call 137; (with_reducible refine (cK _).mono ?_); rintro e w1 ⟨rfl, U1⟩; have B1 := bcell U1; have Z1 := U1.size; (try simp at Z1); (try rw [Nat.add_one_le_iff] at Z1)) | fail)
  refine (cF _ (H.out.up U1)).mono ?_
  rintro e w2 ⟨⟨v, rfl⟩, hP⟩
  have hP2 := hP.last (k' := k.cleared) (-1) rfl rfl rfl rfl
  obtain ⟨vp', vn', vi', hT2, -, -⟩ := hP
  have htb2 := hT2.lt
  obtain ⟨d0, d1, d2, d3, d4, d5, d6, d7⟩ := hT2.cells
  have hfr2 := box_free hT2.box
  have HP := Lib.hid hP2
  clear hT2 hP2 B1
  go_wp2
  (try simp only [Exit.inBlock, Exit.then]); refine bodyPost_ret (results_none rfl _ _ _) rfl ?_
  exact ⟨⟨_, rfl⟩, HP.out.pre U1⟩

/-- The code whose node has the first byte of a code's word. -/
def KnD.from (k : KnD) (x : Int) : Int := if x = k.next then k.last else x
theorem KnD.from_ok {k : KnD} (hk : k.Ok) {x : Int} (hf : k.follows x = true) : codeOk k.c k.ps.length (k.from x) = true := by
  unfold KnD.from
  rcases KnD.follows_cases hk hf with hc | ⟨_, hx, hl⟩
  · rw [if_neg (by rw [codeOk_iff] at hc; unfold KnD.next; omega)]; exact hc
  · rw [if_pos hx]; exact hl
theorem KnD.from_first {k : KnD} (hk : k.Ok) {x : Int} (hf : k.follows x = true) : (nodAt k.tree.ns (nodeOf k.c k.tree (k.from x))).fir = k.first x := by
  have hT := hk.tree
  have hfr := KnD.from_ok hk hf
  obtain ⟨a1, a2, a3⟩ := hT.node _ hfr
  have h1 := hT.first _ a1
  obtain ⟨-, -, f1, f2⟩ := hT.bytes _ a1
  have hcb := hk.c_bd
  rw [a3] at h1
  have h2 : (k.any x).getD 0 0 = (wordP k.c k.ps (k.from x)).getD 0 0 := by
    unfold KnD.any KnD.from
    split
    · have hl : codeOk k.c k.ps.length k.last = true := by
        have := hfr
        unfold KnD.from at this
        rwa [if_pos (by assumption)] at this
      have hp : 1 ≤ (k.word k.last).length := wordP_pos hk.ps hl
      show (k.word k.last ++ (k.word k.last).take 1).getD 0 0 = (k.word k.last).getD 0 0
      rw [List.getD_eq_getElem?_getD, List.getD_eq_getElem?_getD, List.getElem?_append_left (by omega)]
    · rfl
  unfold KnD.first
  rw [h2, h1, ub_nat f1 (by omega)]

set_option maxRecDepth 100000 in
set_option maxHeartbeats 4000000 in
theorem followW_any (lo tb : Nat) (k : KnD) (vp vn vi : Value) (x : Int) (w : World) (h : TreeAt lo tb k vp vn vi w) (hk : k.Ok) (hx : ¬ x = (k.c : Int)) (hf : k.follows x = true) :
    Calls Tryz.prog 136  #[.pointer (some ⟨tb, 0, none⟩), .int .i64 x] w (fun e w' => (∃ v, e = .returned v) ∧ TrPost lo tb (k.after x) vp vn vi w w') := by
  have hkt := hk.tr
  have cK := fun w => clearI_any k.set w hk.set
  obtain ⟨c0, c1, c2, c3, c4, c5, c6, c7⟩ := h.cells
  have hfr := box_free h.box
  have htb := h.lt
  have ec : k.c = clr k.set := rfl
  have hps : k.ps.length ≤ 100000 := by have := hkt.len; have := hkt.c_bd; omega
  obtain ⟨ap, cp, rfl⟩ := h.shape
  have cG := fun w => growI_any k.set k.base k.last ap k.ps.length cp w hk.set hps
  have cX := fun w => nextI_any k.set k.base k.last ap k.ps.length cp w hk.set hps
  rw [growN_eq] at cG
  simp only [knV] at cG cX
  have H := Lib.hid h
  have hxb : (x == ((clr k.set : Nat) : Int)) = false := by rw [← ec]; simpa using hx
  have en : ((clr k.set : Int) + 2 + k.ps.length) = (k.next : Nat) := by unfold KnD.next KnD.c; omega
  have hgw := htb
  cases hg : k.grow
  · have hA : k.after x = ⟨k.set, k.ps, k.base, x⟩ := by unfold KnD.after; rw [hg]; simp
    rw [hA]
    rw [hg] at cG
    clear h hx hg hA cX en
    go_enter Tryz.func136, Tryz.ntmps136
    go_wp2_with (first | ((go_at_call 137; (with_reducible refine (cK _).mono ?_); rintro e w1 ⟨rfl, U1⟩; have B1 := bcell U1; have Z1 := U1.size; (try simp at Z1); (try rw [Nat.add_one_le_iff] at Z1)); have htb1 := Nat.lt_of_lt_of_le htb U1.size; have hgl1 := Nat.lt_of_lt_of_le hgw U1.size) | ((go_at_call 138; (with_reducible refine (cG _).mono ?_); rintro e w2 ⟨rfl, U2⟩; have B2 := bcell U2; have Z2 := U2.size; (try simp at Z2); (try rw [Nat.add_one_le_iff] at Z2)); have htb2 := Nat.lt_of_lt_of_le htb1 U2.size; have hgl2 := Nat.lt_of_lt_of_le hgl1 U2.size))
    go_end0
    have hT := (H.out.up U1).up U2
    exact ⟨⟨_, rfl⟩, (((TrPost.refl hT).last (k' := ⟨k.set, k.ps, k.base, x⟩) x rfl rfl rfl rfl).pre U2).pre U1⟩
  · have hA : k.after x = ⟨k.set, k.ps ++ [⟨k.last, k.first x⟩], k.base, x⟩ := by unfold KnD.after; rw [hg]; rfl
    have hlast := hk.lastOk hg
    have hnx : k.next ≤ lastC k.set := by
      unfold KnD.grow at hg
      simp only [Bool.and_eq_true, decide_eq_true_eq] at hg
      exact hg.2
    obtain ⟨hf1, hf2⟩ := KnD.first_bd hk hf
    have hf3 : k.first x ≤ 255 := by have := hk.c_bd; omega
    have cL := fun wq hT => learnT_any lo tb k (.slice ap k.ps.length cp) vn vi ⟨k.last, k.first x⟩ wq hT hkt hlast hf1 hf2 hnx
    have cN := fun wq hT => nodeOf_any lo tb k (.slice ap k.ps.length cp) vn vi (k.from x) wq hT hkt (KnD.from_ok hk hf)
    have hfi := KnD.from_first hk hf
    obtain ⟨hn1, -, -⟩ := hk.tree.node _ (KnD.from_ok hk hf)
    generalize nodeOf k.c k.tree (k.from x) = nd at *
    obtain ⟨g, cap, nxx, rfl, hg1, hg2, hg3, hg4, hg5, d0, d1, d2, d3, d4, d5⟩ := h.node1 hkt hn1
    rw [hfi] at d4
    unfold maxLen at hg2
    clear hgw
    have hgw := hg4
    rw [hA]
    rw [hg] at cG
    generalize k.first x = fx at *
    dsimp only at cL
    clear h hx hg hA hf hfi hnx d0 d1 d2 d3 d5 hlast
    by_cases hxn : x = k.next
    · have hfrom : k.from x = k.last := by unfold KnD.from; rw [if_pos hxn]
      rw [hfrom] at cN
      clear hfrom
      rw [en] at cX
      rw [← hxn] at cX
      clear en hxn
      go_enter Tryz.func136, Tryz.ntmps136
      go_wp2_with (first | ((go_at_call 137; (with_reducible refine (cK _).mono ?_); rintro e w1 ⟨rfl, U1⟩; have B1 := bcell U1; have Z1 := U1.size; (try simp at Z1); (try rw [Nat.add_one_le_iff] at Z1)); have htb1 := Nat.lt_of_lt_of_le htb U1.size; have hgl1 := Nat.lt_of_lt_of_le hgw U1.size) | ((go_at_call 138; (with_reducible refine (cG _).mono ?_); rintro e w2 ⟨rfl, U2⟩; have B2 := bcell U2; have Z2 := U2.size; (try simp at Z2); (try rw [Nat.add_one_le_iff] at Z2)); have htb2 := Nat.lt_of_lt_of_le htb1 U2.size; have hgl2 := Nat.lt_of_lt_of_le hgl1 U2.size) | ((go_at_call 168; (with_reducible refine (cX _).mono ?_); rintro e w3 ⟨rfl, U3⟩; have B3 := bcell U3; have Z3 := U3.size; (try simp at Z3); (try rw [Nat.add_one_le_iff] at Z3)); have htb3 := Nat.lt_of_lt_of_le htb2 U3.size; have hgl3 := Nat.lt_of_lt_of_le hgl2 U3.size))
      refine wp_region_upR 18 (by kernel_rfl) (by kernel_rfl) ?_
      simp only [List.take, List.drop]
      repeat (refine wpUp_step (fun K hK => ?_); go_simp; (try simp only [↓IntWalk.iteOmega]); first
        | (refine hK _ _ ?_; clear hK K)
        | (apply stepU_c
           · intro wq hwq; (have hbq := bcell hwq; (repeat (first | refine fills_no (by rfl) ?_ | refine fills_yes (by rfl) (fun vq hvq => ?_))); simp only [List.filter_nil, fills]; unfold upAt; go_simp; (try go_bits); (try simp only [↓IntWalk.iteOmega]); (try (rw [dif_pos (by omega)]; go_simp; try go_bits)); first | exact upOut_value | (apply upOut_call; (go_at_call 169; exact cN _ ((((H.out.up U1).up U2).up U3).up hwq))) | (apply upOut_eq; (go_at_call 169; exact cN _ ((((H.out.up U1).up U2).up U3).up hwq))))
           go_simp; refine hK _ _ ?_; clear hK K))
      refine wpUp_nil (fun wq hwq => ?_)
      simp only [fills]
      have hT := (((H.out.up U1).up U2).up U3).up hwq
      have hUq : Up w wq := ((U1.trans U2).trans U3).trans hwq
      go_wp2_with fail
      with_reducible refine (cL _ hT).mono ?_
      rintro e w5 ⟨⟨v, rfl⟩, hP⟩
      have hP2 := hP.last (k' := ⟨k.set, k.ps ++ [⟨k.last, fx⟩], k.base, x⟩) x rfl rfl rfl rfl
      obtain ⟨vp', vn', vi', hT2, -, -⟩ := hP
      have htb5 := hT2.lt
      obtain ⟨e0, e1, e2, e3, e4, e5, e6, e7⟩ := hT2.cells
      have hfr5 := box_free hT2.box
      have HP := Lib.hid (hP2.pre hUq)
      clear hT2 hP2 B1 B2 B3 hT hUq hwq
      go_wp2
      go_end0
      exact ⟨⟨_, rfl⟩, HP.out⟩
    · have hfrom : k.from x = x := by unfold KnD.from; rw [if_neg hxn]
      rw [hfrom] at cN
      clear hfrom
      have hxn2 : (x == (clr k.set : Int) + 2 + k.ps.length) = false := by rw [en]; simpa using hxn
      clear en hxn
      go_enter Tryz.func136, Tryz.ntmps136
      go_wp2_with (first | ((go_at_call 137; (with_reducible refine (cK _).mono ?_); rintro e w1 ⟨rfl, U1⟩; have B1 := bcell U1; have Z1 := U1.size; (try simp at Z1); (try rw [Nat.add_one_le_iff] at Z1)); have htb1 := Nat.lt_of_lt_of_le htb U1.size; have hgl1 := Nat.lt_of_lt_of_le hgw U1.size) | ((go_at_call 138; (with_reducible refine (cG _).mono ?_); rintro e w2 ⟨rfl, U2⟩; have B2 := bcell U2; have Z2 := U2.size; (try simp at Z2); (try rw [Nat.add_one_le_iff] at Z2)); have htb2 := Nat.lt_of_lt_of_le htb1 U2.size; have hgl2 := Nat.lt_of_lt_of_le hgl1 U2.size) | ((go_at_call 168; (with_reducible refine (cX _).mono ?_); rintro e w3 ⟨rfl, U3⟩; have B3 := bcell U3; have Z3 := U3.size; (try simp at Z3); (try rw [Nat.add_one_le_iff] at Z3)); have htb3 := Nat.lt_of_lt_of_le htb2 U3.size; have hgl3 := Nat.lt_of_lt_of_le hgl2 U3.size))
      refine wp_region_upR 18 (by kernel_rfl) (by kernel_rfl) ?_
      simp only [List.take, List.drop]
      repeat (refine wpUp_step (fun K hK => ?_); go_simp; (try simp only [↓IntWalk.iteOmega]); first
        | (refine hK _ _ ?_; clear hK K)
        | (apply stepU_c
           · intro wq hwq; (have hbq := bcell hwq; (repeat (first | refine fills_no (by rfl) ?_ | refine fills_yes (by rfl) (fun vq hvq => ?_))); simp only [List.filter_nil, fills]; unfold upAt; go_simp; (try go_bits); (try simp only [↓IntWalk.iteOmega]); (try (rw [dif_pos (by omega)]; go_simp; try go_bits)); first | exact upOut_value | (apply upOut_call; (go_at_call 169; exact cN _ ((((H.out.up U1).up U2).up U3).up hwq))) | (apply upOut_eq; (go_at_call 169; exact cN _ ((((H.out.up U1).up U2).up U3).up hwq))))
           go_simp; refine hK _ _ ?_; clear hK K))
      refine wpUp_nil (fun wq hwq => ?_)
      simp only [fills]
      have hT := (((H.out.up U1).up U2).up U3).up hwq
      have hUq : Up w wq := ((U1.trans U2).trans U3).trans hwq
      go_wp2_with fail
      with_reducible refine (cL _ hT).mono ?_
      rintro e w5 ⟨⟨v, rfl⟩, hP⟩
      have hP2 := hP.last (k' := ⟨k.set, k.ps ++ [⟨k.last, fx⟩], k.base, x⟩) x rfl rfl rfl rfl
      obtain ⟨vp', vn', vi', hT2, -, -⟩ := hP
      have htb5 := hT2.lt
      obtain ⟨e0, e1, e2, e3, e4, e5, e6, e7⟩ := hT2.cells
      have hfr5 := box_free hT2.box
      have HP := Lib.hid (hP2.pre hUq)
      clear hT2 hP2 B1 B2 B3 hT hUq hwq
      go_wp2
      go_end0
      exact ⟨⟨_, rfl⟩, HP.out⟩

end Go.Proofs.YtekbbnkkninolaaGreat

/- Walk of the program's newTree. Conditions: what is known is valid and can be read. -/
namespace Go.Proofs.YtekbbnkkninolaaGreat
set_option linter.unusedVariables false
set_option linter.unusedSimpArgs false
open Go Go.RowKit

def litC1 (i : Nat) : List Value := [.int .i64 (-1), .int .i64 (-1), .int .i64 (-1), .int .u8 i, .int .u8 i, .int .i64 i]
def litC (b : Nat) : List Value := (List.range b).flatMap litC1
theorem litC_succ (b : Nat) : litC (b + 1) = litC b ++ litC1 b := by simp [litC, List.range_succ]
theorem litC_one (b : Nat) : ∀ u ∈ litC1 b, u.oneCell' = true := by
  intro u hu
  simp only [litC1, List.mem_cons, List.not_mem_nil, or_false] at hu
  rcases hu with rfl | rfl | rfl | rfl | rfl | rfl <;> rfl
theorem litC_all (c : Nat) : litC c = cellsN (litsN c) := by
  unfold litC cellsN
  rw [litsN_length]
  rw [List.flatMap_def, List.flatMap_def]
  congr 1
  apply List.map_congr_left
  intro i hi
  have hi := List.mem_range.1 hi
  have h1 : lastCh (litsN c) i c = -1 := by
    rcases lastCh_cases (litsN c) i c with ⟨h, _⟩ | ⟨j, hj, _, h3, _⟩
    · exact h
    · rw [litsN_at hj] at h3; simp only [] at h3; omega
  unfold nodC
  rw [litsN_at hi, h1]
  rfl
theorem TreeAt.not_own {lo tb : Nat} {k : KnD} {vp vn vi : Value} {w : World} (h : TreeAt lo tb k vp vn vi w) {b : Nat} {cs : Array Value} {T : TypeId} (hb : w.heap[b]? = some (.cells cs T)) (h1 : T ≠ 160) (h2 : T ≠ 176) (h3 : T ≠ 181) (h4 : T ≠ 3) : ¬ Own tb vp vn vi b := by
  rintro (rfl | e | e | e)
  · have := h.box
    unfold TrBox at this
    rw [hb] at this
    cases this
    exact h1 rfl
  · exact box_ne hb h.prs h2 e.symm
  · exact box_ne hb h.nod h3 e.symm
  · exact box_ne hb h.idx h4 e.symm

/-- What is known, of the first j pairs. -/
def KnD.upto (k : KnD) (j : Nat) : KnD := ⟨k.set, k.ps.take j, k.base, k.last⟩
theorem KnD.upto_tr {k : KnD} (h : k.Tr) (j : Nat) : (k.upto j).Tr := by
  refine ⟨h.set, h.ps.take _, ?_⟩
  have := h.len
  show (k.ps.take j).length + k.c + 1 ≤ lastC k.set
  rw [List.length_take]; omega
theorem KnD.upto_add {k : KnD} {j : Nat} (h : j < k.ps.length) : (k.upto j).add k.ps[j] = k.upto (j + 1) := by
  unfold KnD.upto KnD.add
  rw [List.take_succ_eq_append_getElem h]
theorem KnD.upto_all (k : KnD) : k.upto k.ps.length = k := by unfold KnD.upto; rw [List.take_length]

/-- The first loop: the nodes of the literals. -/
structure Nt1 (k : KnD) (v : Value) (w : World) (b : Nat) (vn : Value) (wr : World) : Prop where
  le : b ≤ clr k.set
  kn : KnAt w.heap.size k v wr
  box : TrBox (w.heap.size + 1) k (.slice none 0 0) vn (.slice none 0 0) wr
  row : wr.ownsRow w.heap.size 181 6 vn b (litC b)
  up : Up w wr
def RelNt1 (k : KnD) (v : Value) (w : World) (i : Value) (wr : World) : Prop := ∃ (b : Nat) (vn : Value), i = .int .i64 b ∧ Nt1 k v w b vn wr
structure Nt2 (k : KnD) (v : Value) (w : World) (j : Nat) (vp vn vi : Value) (wr : World) : Prop where
  le : j ≤ k.ps.length
  kn : KnAt w.heap.size k v wr
  tree : TreeAt w.heap.size (w.heap.size + 1) (k.upto j) vp vn vi wr
  up : Up w wr
def RelNt2 (k : KnD) (v : Value) (w : World) (i : Value) (wr : World) : Prop := ∃ (j : Nat) (vp vn vi : Value), i = .int .i64 j ∧ Nt2 k v w j vp vn vi wr

/-- What newTree leaves. -/
def NewTree (k : KnD) (w : World) (e : Ending) (w' : World) : Prop := ∃ tb vp vn vi, e = .returned (.pointer (some ⟨tb, 0, none⟩)) ∧ TreeAt w.heap.size tb k vp vn vi w' ∧ Up w w'

set_option maxRecDepth 100000 in
set_option maxHeartbeats 8000000 in
theorem newTree_any (k : KnD) (v : Value) (lo : Nat) (w : World) (hk : k.Ok) (hr : RdP lo w v k.ps) :
    Calls Tryz.prog 135  #[kV k v] w (NewTree k w) := by
  obtain ⟨iN, hiN, hzN0, hzN1, hzN2⟩ := info_parts infoNode
  have hkt := hk.tr
  have cK := fun w => clearI_any k.set w hk.set
  obtain ⟨hb2, hb3, hb4⟩ := clr_le hk.set
  have ec : k.c = clr k.set := rfl
  have hpl := hk.len
  have hrt := fun (wq : World) (hu : Up w wq) => hr.up hu
  obtain ⟨a, cap, rfl, hc1, hc2, hc3, hsome⟩ := hr
  unfold maxLen at hc2
  simp only [kV]
  go_enter Tryz.func135, Tryz.ntmps135
  go_wp2_with (first | (go_at_call 137; (with_reducible refine (cK _).mono ?_); rintro e w1 ⟨rfl, U1⟩; have B1 := bcell U1; have Z1 := U1.size; (try simp at Z1); (try rw [Nat.add_one_le_iff] at Z1)) | fail)
  have hkn : KnAt w.heap.size k (.slice a k.ps.length cap) w1 := box_up U1 (box_up ((Up.refl _).alloc _) (MapKept.heap_alloc w _).1)
  have hbx : TrBox (w.heap.size + 1) k (.slice none 0 0) (.slice none 0 0) (.slice none 0 0) w1 := box_up U1 (alloc2 w _ _)
  have hU1 : Up w w1 := by (repeat (first | with_reducible exact Up.refl _ | with_reducible assumption | with_reducible refine Up.set ?_ (by first | exact Nat.le_refl _ | (simp only []; omega) | (simp; omega)) _ | with_reducible refine Up.alloc ?_ _ | with_reducible refine Up.drew ?_ | refine Up.trans ?_ (by with_reducible assumption)))
  clear U1 B1
  go_loopw [17] (fun i wr => RelNt1 k (.slice a k.ps.length cap) w i wr) (fun i _ => clr k.set - (intOf i).toNat)
  case atStart => exact ⟨0, .slice none 0 0, rfl, Nat.zero_le _, hkn, hbx, World.ownsRow_nil _ _ _ _, hU1⟩
  case round =>
    clear hkn hbx hU1
    obtain ⟨b, vn, rfl, hN⟩ := hrel
    obtain ⟨hble, hkn, hbx, hrow, hup⟩ := hN
    obtain ⟨an, cn, rfl⟩ := ownsRow_shape hrow
    have hfr := box_free hbx
    have hfk := box_free hkn
    have htb := (Array.getElem?_eq_some_iff.1 hbx).1
    obtain ⟨k0, q0, q1, q2, q3, q4, q5⟩ := hkn.cells
    have hne1 : ¬ w.heap.size = w.heap.size + 1 := by omega
    have hsz := hup.size
    by_cases hlt : b < clr k.set
    · have hbm : (b : Int) % 256 = b := by omega
      have hb255 : (b : Int) ≤ 255 := by omega
      obtain ⟨c0, c1, c2, c3, c4, c5, c6, c7⟩ := TrBox.cells hbx
      have hneB : some (w.heap.size + 1) ≠ Value.ownBlock (.slice an b cn) := box_ne hbx hrow (by decide)
      have hneK : some w.heap.size ≠ Value.ownBlock (.slice an b cn) := box_ne hkn hrow (by decide)
      have HN := Lib.hid (And.intro hbx (And.intro hkn (And.intro hrow (And.intro hneB hneK))))
      clear hbx hkn hneB hneK
      go_wp2_with (at_builtin; refine wpList_append_own _ rfl _ _ 158 rfl w.heap.size 181 iN (.agg #[.int .i64 0, .int .i64 0, .int .i64 0, .int .u8 0, .int .u8 0, .int .i64 0]) 6 40 Tryz.underlying158 hiN hzN0 hzN1 hzN2 rfl (by decide) _ _ _ rfl (hrow.alloc _) ⟨wr.heap.size, 0, none⟩ 1 1 (litC1 b) rfl rfl (new_cells (litC1 b) _ rfl) (litC_one b) (by unfold maxLen; omega) (by omega) (by simp; omega) ?_; rintro v2 w2 hown2 hgr2 -; obtain ⟨a2, cc2, rfl⟩ := ownsRow_shape hown2; obtain ⟨c0, c1, c2, c3, c4, c5, c6, c7⟩ := TrBox.cells (gbox hgr2 (box_up ((Up.refl _).alloc _) HN.out.1) HN.out.2.2.2.1); have hfr := box_free (gbox hgr2 (box_up ((Up.refl _).alloc _) HN.out.1) HN.out.2.2.2.1); have HO := Lib.hid (And.intro hown2 hgr2); clear hown2 hgr2)
      go_roundw
      case rel =>
        obtain ⟨hown2, hgr2⟩ := HO.out
        have hb2' : TrBox (w.heap.size + 1) k (.slice none 0 0) (.slice an b cn) (.slice none 0 0) w2 := gbox hgr2 (box_up ((Up.refl _).alloc _) HN.out.1) HN.out.2.2.2.1
        refine ⟨b + 1, .slice a2 (b + 1) cc2, by go_num, by omega, ?_, box_set hb2' 6 _, ?_, ?_⟩
        · exact box_oth (gbox hgr2 (box_up ((Up.refl _).alloc _) HN.out.2.1) HN.out.2.2.2.2) (p := ⟨w.heap.size + 1, 6, none⟩) hne1 _
        · rw [litC_succ]; exact ownsRow_setb hown2 (box_ne hb2' hown2 (by decide)) 6 _
        · exact ((hup.alloc _).grown hgr2 (fun x hx => (HN.out.2.2.1.lt x hx).1)).set (p := ⟨w.heap.size + 1, 6, none⟩) (Nat.le_succ _) _
      case measure => simp [intOf]; omega
    · have e : b = clr k.set := by omega
      have hrow' : wr.ownsRow w.heap.size 181 6 (.slice an b cn) (k.upto 0).tree.ns.length (cellsN (k.upto 0).tree.ns) := by
        have e2 : (k.upto 0).tree = ⟨litsN (clr k.set), []⟩ := rfl
        rw [e2]
        show wr.ownsRow _ _ _ _ (litsN (clr k.set)).length _
        rw [litsN_length, ← litC_all, ← e]
        exact hrow
      have hT0 : TreeAt w.heap.size (w.heap.size + 1) (k.upto 0) (.slice none 0 0) (.slice an b cn) (.slice none 0 0) wr := ⟨hbx, Nat.le_succ _, World.ownsRow_nil _ _ _ _, hrow', World.ownsRow_nil _ _ _ _⟩
      have HK := Lib.hid (And.intro hkn (And.intro hT0 hup))
      clear e hrow hrow' hbx hT0 hkn
      go_wp2
      go_loopw [39] (fun i wr => RelNt2 k (.slice a k.ps.length cap) w i wr) (fun i _ => k.ps.length - (intOf i).toNat)
      case atStart => exact ⟨0, _, _, _, rfl, Nat.zero_le _, HK.out.1, HK.out.2.1, HK.out.2.2⟩
      case round =>
        clear HK hup hfr hfk htb k0 q0 q1 q2 q3 q4 q5 hne1 hsz
        obtain ⟨j, vp, vn, vi, rfl, hN⟩ := hrel
        obtain ⟨hjl, hkn, hT, hup⟩ := hN
        by_cases hlt : j < k.ps.length
        · obtain ⟨hpo, hpb0, hpb1⟩ := hk.ps.get hlt
          obtain ⟨bb, off, rfl, hlo, hbl, hcells⟩ := hsome (by omega)
          obtain ⟨q0, q1⟩ := hcells j k.ps[j] (List.getElem?_eq_getElem hlt)
          have r0 := (hup.cell (p := ⟨bb, off + j * 2, none⟩) hbl).trans q0
          have r1 := (hup.cell (p := ⟨bb, off + j * 2 + 1, none⟩) hbl).trans q1
          have hut : (k.upto j).ps.length = j := by unfold KnD.upto; simp only [List.length_take]; omega
          have cL := fun wq hT => learnT_any w.heap.size (w.heap.size + 1) (k.upto j) vp vn vi k.ps[j] wq hT (KnD.upto_tr hkt j) (by rw [hut]; exact hpo) hpb0 hpb1 (by unfold KnD.next; rw [hut]; show k.c + 2 + j ≤ lastC k.set; omega)
          have hadd := KnD.upto_add hlt
          have HT := Lib.hid (And.intro hkn (And.intro hT hup))
          have HADD := Lib.hid hadd
          clear hcells q0 q1 hkn hT hut hadd
          have hbl2 := Nat.lt_of_lt_of_le hbl hup.size
          go_wp2_with fail
          with_reducible refine (cL _ (HT.out.2.1.up (Up.alloc (Up.refl _) _))).mono ?_
          rintro e w2 ⟨⟨vv, rfl⟩, hP⟩
          go_wp2
          go_roundw
          case rel =>
            obtain ⟨hkn, hT, hup⟩ := HT.out
            obtain ⟨vp', vn', vi', hT', hfr', hO'⟩ := hP
            rw [HADD.out] at hT'
            have hTa := hT.up (Up.alloc (Up.refl wr) (.cells #[.int .i64 k.ps[j].pre, .int .i64 k.ps[j].byt] 176))
            have hkna := box_up (Up.alloc (Up.refl wr) (.cells #[.int .i64 k.ps[j].pre, .int .i64 k.ps[j].byt] 176)) hkn
            exact ⟨j + 1, vp', vn', vi', by go_num, by omega, hfr'.box hkna (hTa.not_own hkna (by decide) (by decide) (by decide) (by decide)), hT', Fr.upto (hup.alloc _) hfr' (fun b hb => (hTa.own_lo b hb).1)⟩
          case measure => simp [intOf]; omega
        · have e : j = k.ps.length := by omega
          rw [e, KnD.upto_all] at hT
          have HT := Lib.hid (And.intro hT hup)
          clear hkn hT
          go_wp2
          go_ret
          exact ⟨_, vp, vn, vi, rfl, HT.out.1, HT.out.2⟩

end Go.Proofs.YtekbbnkkninolaaGreat

/- Walk of the program's greedy. Conditions: what is known is valid and can be read; the data fits. -/
namespace Go.Proofs.YtekbbnkkninolaaGreat
set_option linter.unusedVariables false
set_option linter.unusedSimpArgs false
open Go Go.RowKit

theorem TreeAt.base {lo lo' tb : Nat} {k : KnD} {vp vn vi : Value} {w : World} (h : TreeAt lo tb k vp vn vi w) (hl : lo' ≤ lo) : TreeAt lo' tb k vp vn vi w := ⟨h.box, Nat.le_trans hl h.low, ownsRow_base h.prs hl, ownsRow_base h.nod hl, ownsRow_base h.idx hl⟩
/-- The memory of greedy: the tree, and the row of codes. -/
structure GiW (w : World) (tb : Nat) (k : KnD) (vp vn vi vc : Value) (acc : List Int) (wr : World) : Prop where
  tree : TreeAt w.heap.size tb k vp vn vi wr
  own : ownI wr w.heap.size vc acc
  sep : ∀ b, vc.ownBlock = some b → ¬ Own tb vp vn vi b
  up : Up w wr
theorem GiW.upd {w : World} {tb : Nat} {k : KnD} {vp vn vi vc : Value} {acc : List Int} {wr w' : World} (h : GiW w tb k vp vn vi vc acc wr) (hu : Up wr w') : GiW w tb k vp vn vi vc acc w' := ⟨h.tree.up hu, ownsRow_up h.own hu, h.sep, h.up.trans hu⟩
theorem GiW.tr {w : World} {tb : Nat} {k k' : KnD} {vp vn vi vc : Value} {acc : List Int} {wr w' : World} (h : GiW w tb k vp vn vi vc acc wr) (hp : TrPost w.heap.size tb k' vp vn vi wr w') : ∃ vp' vn' vi', GiW w tb k' vp' vn' vi' vc acc w' := by
  obtain ⟨vp', vn', vi', hT, hF, hO⟩ := hp
  refine ⟨vp', vn', vi', hT, hF.row h.own h.sep, ?_, Fr.upto h.up hF (fun b hb => (h.tree.own_lo b hb).1)⟩
  intro b hb ho
  rcases hO b ho with h1 | h1
  · exact h.sep b hb h1
  · have := (h.own.lt b hb).2; omega
theorem GiW.app {w : World} {tb : Nat} {k : KnD} {vp vn vi vc : Value} {acc : List Int} {wr w' : World} (h : GiW w tb k vp vn vi vc acc wr) {o : Obj} {x : Int} {v' : Value} (hv : w'.ownsRow w.heap.size 3 1 v' (acc.length + 1) (cellsI acc ++ [.int .i64 x])) (hg : (wr.alloc o).grownBy w' vc.ownBlock) (hn : NewOr (wr.alloc o).heap.size vc v') : GiW w tb k vp vn vi v' (acc ++ [x]) w' := by
  have hA := h.upd (Up.alloc (Up.refl wr) o)
  have hFr : Fr (fun b => vc.ownBlock = some b) (wr.alloc o) w' := (Fr.refl _ _).gr hg (fun b hb => .inl hb)
  refine ⟨hA.tree.fr hFr (fun b hb e => hA.sep b e hb), ?_, ?_, hA.up.grown hg (fun b hb => (hA.own.lt b hb).1)⟩
  · rw [← cellsI_snoc] at hv
    exact ownsRow_n hv (by simp)
  · intro b hb ho
    rcases hn b hb with h1 | h1
    · exact hA.sep b h1 ho
    · have := (hA.tree.own_lo b ho).2; omega
/-- The plain state at a round's beginning, and behind the clear code of a round. -/
structure GiD (T : List Int) (k0 : KnD) (m : Nat) (k : KnD) (d : List UInt8) (acc : List Int) : Prop where
  len : d.length ≤ m
  le : d.length ≤ 2000
  sum : acc.length + 2 * d.length ≤ 4001
  tot : acc ++ (if k.full = true ∧ d ≠ [] then (k.c : Int) :: greedyN m k.cleared d else greedyN m k d) = T
  ok : k.Ok
  set : k.set = k0.set
  lit : ∀ b ∈ d, b.toNat < k0.c
structure GiE (T : List Int) (k0 : KnD) (m : Nat) (k : KnD) (d : List UInt8) (acc : List Int) : Prop where
  len : d.length ≤ m
  le : d.length ≤ 2000
  sum : acc.length + 2 * d.length ≤ 4002
  tot : acc ++ greedyN m k d = T
  ok : k.Ok
  set : k.set = k0.set
  lit : ∀ b ∈ d, b.toNat < k0.c
theorem c_of {k k0 : KnD} (h : k.set = k0.set) : k.c = k0.c := by unfold KnD.c; rw [h]
theorem GiD.nil {T : List Int} {k0 : KnD} {m : Nat} {k : KnD} {acc : List Int} (h : GiD T k0 m k [] acc) : acc ++ [(clr k0.set : Int) + 1] = T := by
  have h1 := h.tot
  rw [if_neg (fun h => h.2 rfl), greedyN_nil, c_of h.set] at h1
  exact h1
theorem GiD.full {T : List Int} {k0 : KnD} {m : Nat} {k : KnD} {d : List UInt8} {acc : List Int} (h : GiD T k0 m k d acc) (hd : d ≠ []) (hf : k.full = true) : GiE T k0 m k.cleared d (acc ++ [(clr k0.set : Int)]) := by
  have h1 := h.tot
  rw [if_pos ⟨hf, hd⟩, c_of h.set] at h1
  exact ⟨h.len, h.le, by have := h.sum; simp; omega, by rw [List.append_assoc]; exact h1, KnD.cleared_ok h.ok, h.set, h.lit⟩
theorem GiD.more {T : List Int} {k0 : KnD} {m : Nat} {k : KnD} {d : List UInt8} {acc : List Int} (h : GiD T k0 m k d acc) (hf : k.full = false) : GiE T k0 m k d acc := by
  have h1 := h.tot
  rw [if_neg (fun h => by rw [hf] at h; cases h.1)] at h1
  exact ⟨h.len, h.le, by have := h.sum; omega, h1, h.ok, h.set, h.lit⟩
theorem GiE.step {T : List Int} {k0 : KnD} {m : Nat} {k : KnD} {d : List UInt8} {acc : List Int} (h : GiE T k0 m k d acc) (hd : d ≠ []) :
    k.follows (k.find (k.longest d)) = true ∧ ¬ k.find (k.longest d) = (k.c : Int) ∧ 1 ≤ (k.longest d).length ∧ (k.longest d).length ≤ d.length ∧ GiD T k0 (m - 1) (k.after (k.find (k.longest d))) (d.drop (k.longest d).length) (acc ++ [k.find (k.longest d)]) := by
  have hll := KnD.longest_le (k := k) d
  have hlp := KnD.longest_pos (k := k) hd
  have hl : ∀ b ∈ d, b.toNat < k.c := by rw [c_of h.set]; exact h.lit
  obtain ⟨hfw, -⟩ := KnD.find_any h.ok hd hl
  have hpos : 0 < d.length := List.length_pos_iff.2 hd
  have h1 := h.len; have h2 := h.le; have h3 := h.sum; have h4 := h.tot
  obtain ⟨n, rfl⟩ : ∃ n, m = n + 1 := ⟨m - 1, by omega⟩
  refine ⟨hfw, (KnD.fol_ne h.ok hfw).1, hlp, hll, by rw [List.length_drop]; omega, by rw [List.length_drop]; omega, by rw [List.length_drop, List.length_append]; simp; omega, ?_, KnD.after_ok h.ok hfw, h.set, fun b hb => h.lit b (List.mem_of_mem_drop hb)⟩
  rw [greedyN, if_neg hd] at h4
  rw [← h4, List.append_assoc]
  rfl
theorem GiD.start {k : KnD} {d : List UInt8} (hk : k.Ok) (hd : d.length ≤ 2000) (hl : ∀ b ∈ d, b.toNat < k.c) : GiD (greedy k d) k d.length k.cleared d [(clr k.set : Int)] := by
  have hf : k.cleared.full = false := by
    unfold KnD.full KnD.cleared
    have h0 := hk.base0
    have : ¬ k.base < ((k.ps.take k.base.toNat).length : Int) := by rw [List.length_take]; omega
    rw [Bool.and_eq_false_iff]; right
    exact decide_eq_false this
  refine ⟨Nat.le_refl _, hd, by simp; omega, ?_, KnD.cleared_ok hk, rfl, hl⟩
  rw [if_neg (fun h => by rw [hf] at h; cases h.1)]
  rfl
def RelGi (T : List Int) (k0 : KnD) (tb : Nat) (w : World) (t vc : Value) (wr : World) : Prop := ∃ (k : KnD) (d : List UInt8) (vp vn vi : Value) (m : Nat) (acc : List Int), t = .string (bs d) ∧ GiD T k0 m k d acc ∧ GiW w tb k vp vn vi vc acc wr

set_option maxRecDepth 100000 in
set_option maxHeartbeats 8000000 in
theorem greedy_any (k : KnD) (v : Value) (lo : Nat) (d : ByteArray) (w : World) (hk : k.Ok) (hr : RdP lo w v k.ps) (hd : d.size ≤ 2000) (hl : ∀ b ∈ d.data.toList, b.toNat < k.c) :
    Calls Tryz.prog 153  #[kV k v, .string d] w (IntsPost (greedy k d.data.toList) w) := by
  obtain ⟨i0, hi, hz0, hz1, hz2⟩ := info_parts infoIntG
  have hkt := hk.tr
  have cK := fun w => clearI_any k.set w hk.set
  have cE := fun w => endI_any k.set w hk.set
  obtain ⟨hb2, hb3, hb4⟩ := clr_le hk.set
  have hrt := fun (wq : World) (hu : Up w wq) => hr.up hu
  have cN := fun wq hr => newTree_any k v lo wq hk hr
  have HK := Lib.hid hk
  have hkb := And.intro hk.base0 hk.base1
  obtain ⟨a, cap, rfl, -, -, -, -⟩ := hr
  have HLl := Lib.hid hl
  have hdl := ba_len d
  clear hk hl
  simp only [kV] at *
  go_enter Tryz.func153, Tryz.ntmps153
  go_wp2
  refine wp_region_upf 6 (by kernel_rfl) (by kernel_rfl) ?_
  simp only [List.take, List.drop]
  repeat (refine wpUp_step (fun K hK => ?_); go_simp; (try simp only [↓IntWalk.iteOmega]); first
    | (refine hK _ _ ?_; clear hK K)
    | (apply stepU_c
       · intro wq hwq; (have hbq := bcell hwq; (repeat (first | refine fills_no (by rfl) ?_ | refine fills_yes (by rfl) (fun vq hvq => ?_))); simp only [List.filter_nil, fills]; unfold upAt; go_simp; (try go_bits); (try simp only [↓IntWalk.iteOmega]); (try (rw [dif_pos (by omega)]; go_simp; try go_bits)); first | exact upOut_value | (apply upOut_call; (go_at_call 137; exact cK _)) | (apply upOut_eq; (go_at_call 137; exact cK _)) | (apply upOut_call; (go_at_call 177; exact cE _)) | (apply upOut_eq; (go_at_call 177; exact cE _)))
       go_simp; refine hK _ _ ?_; clear hK K))
  refine wpUp_nil (fun wq hwq => ?_)
  simp only [fills]
  go_wp2
  rw [onlyN_normal]
  have hU0 : Up w wq := by (repeat (first | with_reducible exact Up.refl _ | with_reducible assumption | with_reducible refine Up.set ?_ (by first | exact Nat.le_refl _ | (simp only []; omega) | (simp; omega)) _ | with_reducible refine Up.alloc ?_ _ | with_reducible refine Up.drew ?_ | refine Up.trans ?_ (by with_reducible assumption)))
  have hkn : KnAt w.heap.size k (.slice a k.ps.length cap) wq := box_up hwq (MapKept.heap_alloc w _).1
  obtain ⟨b0, r0, r1, r2, r3, r4, r5⟩ := hkn.cells
  clear hkn hwq
  go_wp2_with fail
  with_reducible refine (cN _ (hrt _ hU0)).mono ?_
  rintro e w2 ⟨tb, vp, vn, vi, rfl, hT2, U2⟩
  have hT2' := hT2.base (lo' := w.heap.size) hU0.size
  have htb2 := hT2.lt
  have hU2 := hU0.trans U2
  have cF := followC_any w.heap.size tb k vp vn vi w2 hT2' hkt hkb.1 hkb.2
  rw [show k.c = clr k.set from rfl] at cF
  have HT2 := Lib.hid (And.intro hT2' hU2)
  clear hT2 hT2' hU2 cN hrt
  go_wp2_with fail
  with_reducible refine cF.mono ?_
  rintro e w3 ⟨⟨vv, rfl⟩, hP3⟩
  obtain ⟨vp3, vn3, vi3, hT3, hF3, -⟩ := hP3
  have hU3 := Fr.upto HT2.out.2 hF3 (fun b hb => (HT2.out.1.own_lo b hb).1)
  have htb3 := hT3.lt
  have hW3 : ∀ (vc : Value), vc = .slice (some ⟨w3.heap.size, 0, none⟩) 1 1 → GiW w tb k.cleared vp3 vn3 vi3 vc [(clr k.set : Int)] (w3.alloc (.cells #[.int .i64 (clr k.set)] 3)) := fun vc e => by
    subst e
    exact ⟨hT3.up (Up.alloc (Up.refl _) _), own_made1 w3 hU3.size, fun b hb ho => by have := (hT3.own_lo b ho).2; simp only [Value.ownBlock, Option.some.injEq] at hb; omega, hU3.alloc _⟩
  have HW3 := Lib.hid (hW3 _ rfl)
  clear hT3 hF3 hU3 hW3
  have HL : Hid (d = bs d.data.toList) := (bs_self d).symm
  generalize d.data.toList = L at *
  go_wp2
  go_loopw [1, 8] (fun t out wr => RelGi (greedy k L) k tb w t out wr) (fun t _ _ => slen t)
  case atStart =>
    exact ⟨k.cleared, L, vp3, vn3, vi3, L.length, _, congrArg Value.string HL.out, GiD.start HK.out (by omega) HLl.out, HW3.out⟩
  case round =>
    clear HL HW3 HT2 HLl hdl hd
    obtain ⟨k1, d, vp, vn, vi, m, acc, rfl, hD, hW⟩ := hrel
    obtain ⟨ac, cc, rfl⟩ := ownsRow_shape hW.own
    have hsum := hD.sum
    have hle := hD.le
    by_cases hde : d = []
    · subst hde
      have HT := Lib.hid hD.nil
      have HW := Lib.hid hW
      clear hD hW
      rw [show bs ([] : List UInt8) = (⟨#[]⟩ : ByteArray) from rfl]
      go_wp2_with (at_builtin; (refine wpList_append2 rfl _ _ 54 rfl w.heap.size 3 i0 (.int .i64 0) 1 8 Tryz.underlying54 hi hz0 hz1 hz2 rfl (by decide) _ _ _ rfl (ownsRow_up (HW.out).own (Up.alloc (Up.refl _) _)) ⟨(wr).heap.size, 0, none⟩ 1 1 [.int .i64 ((clr k.set : Int) + 1)] rfl rfl (new_cells [.int .i64 ((clr k.set : Int) + 1)] _ rfl) (by intro u hu; simp at hu; subst hu; rfl) (by unfold maxLen; omega) (by omega) (by have := (HW.out).up.size; simp; omega) ?_; rintro va wa hva hga hna; obtain ⟨aa, ca, rfl⟩ := ownsRow_shape hva; have HA := Lib.hid (And.intro hva (And.intro hga hna)); clear hva hga hna))
      go_ret
      have h4 := HW.out.app HA.out.1 HA.out.2.1 HA.out.2.2
      exact ⟨_, rfl, (by have := h4.own; rw [HT.out] at this; exact this), h4.up⟩
    · have HNE : (bs d).toList.isEmpty = false := by rw [Lib.toList_data, bs_data]; cases d with | nil => exact absurd rfl hde | cons _ _ => rfl
      have hpos : 0 < d.length := List.length_pos_iff.2 hde
      have hpl1 := hD.ok.nums.2.2.2.1
      obtain ⟨ap, cp, rfl⟩ := hW.tree.shape
      have cQ := fun w => fullI_any k1.set k1.base k1.last ap k1.ps.length cp w hD.ok.set (by omega)
      rw [fullN_eq] at cQ
      simp only [knV] at cQ
      have htb := hW.tree.lt
      obtain ⟨c0, c1, c2, c3, c4, c5, c6, c7⟩ := hW.tree.cells
      have hset := hD.set
      have hkt1 := hD.ok.tr
      have hb01 := And.intro hD.ok.base0 hD.ok.base1
      have HD := Lib.hid hD
      have HW := Lib.hid hW
      have HDE := Lib.hid hde
      clear hD hW hde
      by_cases hf : k1.full = true
      · rw [hf] at cQ
        have cF := fun wq hT => followC_any w.heap.size tb k1 (.slice ap k1.ps.length cp) vn vi wq hT hkt1 hb01.1 hb01.2
        rw [show k1.c = clr k.set from c_of hset] at cF
        have HE := Lib.hid (HD.out.full HDE.out hf)
        clear hf hset
        go_wp2_with (first | (go_at_call 180; (with_reducible refine (cQ _).mono ?_); rintro e w6 ⟨rfl, U6⟩; have B6 := bcell U6; have Z6 := U6.size; (try simp at Z6); (try rw [Nat.add_one_le_iff] at Z6)) | fail)
        with_reducible refine (cF _ (HW.out.upd U6).tree).mono ?_
        rintro e w7 ⟨⟨vv, rfl⟩, hP7⟩
        obtain ⟨vp7, vn7, vi7, hW7⟩ := (HW.out.upd U6).tr hP7
        have HW7 := Lib.hid hW7
        clear hP7 hW7 B6 Z6 c0 c1 c2 c3 c4 c5 c6 c7
        go_wp2_with (at_builtin; (refine wpList_append2 rfl _ _ 54 rfl w.heap.size 3 i0 (.int .i64 0) 1 8 Tryz.underlying54 hi hz0 hz1 hz2 rfl (by decide) _ _ _ rfl (ownsRow_up (HW7.out).own (Up.alloc (Up.refl _) _)) ⟨(w7).heap.size, 0, none⟩ 1 1 [.int .i64 (clr k.set : Int)] rfl rfl (new_cells [.int .i64 (clr k.set : Int)] _ rfl) (by intro u hu; simp at hu; subst hu; rfl) (by unfold maxLen; omega) (by omega) (by have := (HW7.out).up.size; simp; omega) ?_; rintro va wa hva hga hna; obtain ⟨aa, ca, rfl⟩ := ownsRow_shape hva; have HA := Lib.hid (And.intro hva (And.intro hga hna)); clear hva hga hna); have HW8 := Lib.hid (HW7.out.app HA.out.1 HA.out.2.1 HA.out.2.2); clear HA)
        generalize acc ++ [(clr k.set : Int)] = acc2 at *
        obtain ⟨hfw, hxc, hlp, hll, hD9⟩ := HE.out.step HDE.out
        have hok2 := HE.out.ok
        have hle2 := HE.out.le
        have hsum2 := HE.out.sum
        have cL := fun wq hT => longest_any w.heap.size tb k1.cleared vp7 vn7 vi7 (bs d) wq hT hok2 (by rw [bs_size]; omega) (by rw [bs_size]; omega) (by rw [bs_data, c_of HE.out.set]; exact HE.out.lit)
        rw [bs_data] at cL
        have cG := fun wq hT => followW_any w.heap.size tb k1.cleared vp7 vn7 vi7 (k1.cleared.find (k1.cleared.longest d)) wq hT hok2 hxc hfw
        have hbd : (bs d).extract (k1.cleared.longest d).length d.length = bs (d.drop (k1.cleared.longest d).length) := by rw [bs_ext]; congr 1; exact List.take_of_length_le (by rw [List.length_drop]; omega)
        have hsz := bs_size d
        have HD9 := Lib.hid hD9
        have HBD := Lib.hid hbd
        clear hD9 hbd hfw hxc hok2 HE
        generalize hx : k1.cleared.find (k1.cleared.longest d) = x at *
        generalize hnl : (k1.cleared.longest d).length = n1 at *
        generalize hka : k1.cleared.after x = k9 at *
        clear hx hnl hka
        go_wp2_with fail
        with_reducible refine (cL _ HW8.out.tree).mono ?_
        rintro e w9 ⟨rfl, U9⟩
        go_wp2_with fail
        with_reducible refine (cG _ (HW8.out.upd U9).tree).mono ?_
        rintro e w10 ⟨⟨vv, rfl⟩, hP10⟩
        obtain ⟨vp10, vn10, vi10, hW10⟩ := (HW8.out.upd U9).tr hP10
        have HW10 := Lib.hid hW10
        clear hP10 hW10
        go_wp2_with (at_builtin; (refine wpList_append2 rfl _ _ 54 rfl w.heap.size 3 i0 (.int .i64 0) 1 8 Tryz.underlying54 hi hz0 hz1 hz2 rfl (by decide) _ _ _ rfl (ownsRow_up (HW10.out).own (Up.alloc (Up.refl _) _)) ⟨(w10).heap.size, 0, none⟩ 1 1 [.int .i64 x] rfl rfl (new_cells [.int .i64 x] _ rfl) (by intro u hu; simp at hu; subst hu; rfl) (by unfold maxLen; omega) (by omega) (by have := (HW10.out).up.size; simp; omega) ?_; rintro va wa hva hga hna; obtain ⟨aa, ca, rfl⟩ := ownsRow_shape hva; have HA := Lib.hid (And.intro hva (And.intro hga hna)); clear hva hga hna))
        go_roundw
        case rel => exact ⟨k9, d.drop n1, vp10, vn10, vi10, m - 1, acc2 ++ [x], by rw [HBD.out], HD9.out, (HW10.out.app HA.out.1 HA.out.2.1 HA.out.2.2)⟩
        case measure =>
          simp only [slen]
          rw [HBD.out, bs_size, bs_size, List.length_drop]; omega

      · have hff : k1.full = false := by simpa using hf
        rw [hff] at cQ
        have HE := Lib.hid (HD.out.more hff)
        clear hf hset hff
        go_wp2_with (first | ((go_at_call 180; (with_reducible refine (cQ _).mono ?_); rintro e w6 ⟨rfl, U6⟩; have B6 := bcell U6; have Z6 := U6.size; (try simp at Z6); (try rw [Nat.add_one_le_iff] at Z6)); have HW8 := Lib.hid (HW.out.upd U6); clear B6 Z6 c0 c1 c2 c3 c4 c5 c6 c7) | fail)
        obtain ⟨hfw, hxc, hlp, hll, hD9⟩ := HE.out.step HDE.out
        have hok2 := HE.out.ok
        have hle2 := HE.out.le
        have hsum2 := HE.out.sum
        have cL := fun wq hT => longest_any w.heap.size tb k1 (.slice ap k1.ps.length cp) vn vi (bs d) wq hT hok2 (by rw [bs_size]; omega) (by rw [bs_size]; omega) (by rw [bs_data, c_of HE.out.set]; exact HE.out.lit)
        rw [bs_data] at cL
        have cG := fun wq hT => followW_any w.heap.size tb k1 (.slice ap k1.ps.length cp) vn vi (k1.find (k1.longest d)) wq hT hok2 hxc hfw
        have hbd : (bs d).extract (k1.longest d).length d.length = bs (d.drop (k1.longest d).length) := by rw [bs_ext]; congr 1; exact List.take_of_length_le (by rw [List.length_drop]; omega)
        have hsz := bs_size d
        have HD9 := Lib.hid hD9
        have HBD := Lib.hid hbd
        clear hD9 hbd hfw hxc hok2 HE
        generalize hx : k1.find (k1.longest d) = x at *
        generalize hnl : (k1.longest d).length = n1 at *
        generalize hka : k1.after x = k9 at *
        clear hx hnl hka
        go_wp2_with fail
        with_reducible refine (cL _ HW8.out.tree).mono ?_
        rintro e w9 ⟨rfl, U9⟩
        go_wp2_with fail
        with_reducible refine (cG _ (HW8.out.upd U9).tree).mono ?_
        rintro e w10 ⟨⟨vv, rfl⟩, hP10⟩
        obtain ⟨vp10, vn10, vi10, hW10⟩ := (HW8.out.upd U9).tr hP10
        have HW10 := Lib.hid hW10
        clear hP10 hW10
        go_wp2_with (at_builtin; (refine wpList_append2 rfl _ _ 54 rfl w.heap.size 3 i0 (.int .i64 0) 1 8 Tryz.underlying54 hi hz0 hz1 hz2 rfl (by decide) _ _ _ rfl (ownsRow_up (HW10.out).own (Up.alloc (Up.refl _) _)) ⟨(w10).heap.size, 0, none⟩ 1 1 [.int .i64 x] rfl rfl (new_cells [.int .i64 x] _ rfl) (by intro u hu; simp at hu; subst hu; rfl) (by unfold maxLen; omega) (by omega) (by have := (HW10.out).up.size; simp; omega) ?_; rintro va wa hva hga hna; obtain ⟨aa, ca, rfl⟩ := ownsRow_shape hva; have HA := Lib.hid (And.intro hva (And.intro hga hna)); clear hva hga hna))
        go_roundw
        case rel => exact ⟨k9, d.drop n1, vp10, vn10, vi10, m - 1, acc ++ [x], by rw [HBD.out], HD9.out, (HW10.out.app HA.out.1 HA.out.2.1 HA.out.2.2)⟩
        case measure =>
          simp only [slen]
          rw [HBD.out, bs_size, bs_size, List.length_drop]; omega


end Go.Proofs.YtekbbnkkninolaaGreat

/- Walks of the program's learn, LearnKnown, StartWith. Conditions: what is known is valid and can be read. -/
namespace Go.Proofs.YtekbbnkkninolaaGreat
set_option linter.unusedVariables false
set_option linter.unusedSimpArgs false
open Go Go.RowKit

/-- The plain state of learn; its memory. -/
structure LiD (T : KnD) (k0 : KnD) (L : List UInt8) (m : Nat) (k : KnD) (n : Nat) : Prop where
  len : L.length ≤ n + m
  le : n ≤ L.length
  tot : learnN m k (L.drop n) = T
  ok : k.Ok
  set : k.set = k0.set
structure LiW (w : World) (tb : Nat) (k : KnD) (vp vn vi : Value) (wr : World) : Prop where
  tree : TreeAt (w.heap.size + 2) tb k vp vn vi wr
  res : KnAt (w.heap.size + 1) ⟨⟨0, 0, 0⟩, [], 0, 0⟩ (.slice none 0 0) wr
  up : Up w wr
theorem LiW.upd {w : World} {tb : Nat} {k : KnD} {vp vn vi : Value} {wr w' : World} (h : LiW w tb k vp vn vi wr) (hu : Up wr w') : LiW w tb k vp vn vi w' := ⟨h.tree.up hu, h.res.up hu, h.up.trans hu⟩
theorem LiW.tr {w : World} {tb : Nat} {k k' : KnD} {vp vn vi : Value} {wr w' : World} (h : LiW w tb k vp vn vi wr) (hp : TrPost (w.heap.size + 2) tb k' vp vn vi wr w') : ∃ vp' vn' vi', LiW w tb k' vp' vn' vi' w' := by
  obtain ⟨vp', vn', vi', hT, hF, hO⟩ := hp
  exact ⟨vp', vn', vi', hT, hF.box h.res (fun ho => by have := (h.tree.own_lo _ ho).1; omega), Fr.upto h.up hF (fun b hb => by have := (h.tree.own_lo b hb).1; omega)⟩
theorem LiD.step {T k0 : KnD} {L : List UInt8} {m : Nat} {k : KnD} {n : Nat} (h : LiD T k0 L m k n) (hn : n < L.length) (hl : ∀ b ∈ L, b.toNat < k0.c) :
    k.follows (k.find (k.longest (L.drop n))) = true ∧ ¬ k.find (k.longest (L.drop n)) = (k.c : Int) ∧ 1 ≤ (k.longest (L.drop n)).length ∧ n + (k.longest (L.drop n)).length ≤ L.length ∧ LiD T k0 L (m - 1) (k.after (k.find (k.longest (L.drop n)))) (n + (k.longest (L.drop n)).length) := by
  have hde : L.drop n ≠ [] := fun e => by rw [List.drop_eq_nil_iff] at e; omega
  have hll := KnD.longest_le (k := k) (L.drop n)
  have hlp := KnD.longest_pos (k := k) hde
  have hl2 : ∀ b ∈ L.drop n, b.toNat < k.c := fun b hb => by rw [c_of h.set]; exact hl b (List.mem_of_mem_drop hb)
  obtain ⟨hfw, -⟩ := KnD.find_any h.ok hde hl2
  rw [List.length_drop] at hll
  have h1 := h.len; have h4 := h.tot
  obtain ⟨m', rfl⟩ : ∃ m', m = m' + 1 := ⟨m - 1, by omega⟩
  refine ⟨hfw, (KnD.fol_ne h.ok hfw).1, hlp, by omega, by omega, by omega, ?_, KnD.after_ok h.ok hfw, h.set⟩
  rw [learnN_step hde, List.drop_drop] at h4
  exact h4
def RelLi (T k0 : KnD) (L : List UInt8) (tb : Nat) (w : World) (q i : Value) (wr : World) : Prop := ∃ (k : KnD) (n : Nat) (vp vn vi : Value) (m : Nat) (y : Int), q = .int .i64 y ∧ i = .int .i64 n ∧ LiD T k0 L m k n ∧ LiW w tb k vp vn vi wr
def LnPost (k : KnD) (w : World) (e : Ending) (w' : World) : Prop := ∃ v y, e = .returned (.tuple #[kV k v, .int .i64 y]) ∧ ownPr w' w.heap.size v k.ps ∧ Up w w'

set_option maxRecDepth 100000 in
set_option maxHeartbeats 8000000 in
theorem learnI_any (k : KnD) (v : Value) (lo : Nat) (d : ByteArray) (w : World) (hk : k.Ok) (hr : RdP lo w v k.ps) (hd : d.size ≤ 2000) (hl : ∀ b ∈ d.data.toList, b.toNat < k.c) :
    Calls Tryz.prog 84  #[kV k v, .string d] w (LnPost (learnK k d.data.toList) w) := by
  have hkt := hk.tr
  have cK := fun w => clearI_any k.set w hk.set
  have hrt := fun (wq : World) (hu : Up w wq) => hr.up hu
  have cN := fun wq hr => newTree_any k v lo wq hk hr
  have HK := Lib.hid hk
  have hkb := And.intro hk.base0 hk.base1
  obtain ⟨a, cap, rfl, -, -, -, -⟩ := hr
  have HLl := Lib.hid hl
  have hdl := ba_len d
  clear hk hl
  simp only [kV] at *
  go_enter Tryz.func84, Tryz.ntmps84
  go_wp2_with fail
  with_reducible refine (cN _ (hrt _ (by (repeat (first | with_reducible exact Up.refl _ | with_reducible assumption | with_reducible refine Up.set ?_ (by first | exact Nat.le_refl _ | (simp only []; omega) | (simp; omega)) _ | with_reducible refine Up.alloc ?_ _ | with_reducible refine Up.drew ?_ | refine Up.trans ?_ (by with_reducible assumption)))))).mono ?_
  rintro e w2 ⟨tb, vp, vn, vi, rfl, hT2, U2⟩
  have hW2 : LiW w tb k vp vn vi w2 := ⟨hT2.base (by simp), box_up U2 (alloc2 w _ _), by (repeat (first | with_reducible exact Up.refl _ | with_reducible assumption | with_reducible refine Up.set ?_ (by first | exact Nat.le_refl _ | (simp only []; omega) | (simp; omega)) _ | with_reducible refine Up.alloc ?_ _ | with_reducible refine Up.drew ?_ | refine Up.trans ?_ (by with_reducible assumption)))⟩
  obtain ⟨-, r0, r1, r2, r3, r4, r5⟩ := KnAt.cells (b := w.heap.size) (k := k) (v := .slice a k.ps.length cap) (box_up U2 (box_up ((Up.refl _).alloc _) (MapKept.heap_alloc w _).1))
  have HW2 := Lib.hid hW2
  have htb2 := hT2.lt
  clear hT2 U2 hW2 cN hrt
  go_wp2_with (first | (go_at_call 137; (with_reducible refine (cK _).mono ?_); rintro e w3 ⟨rfl, U3⟩; have B3 := bcell U3; have Z3 := U3.size; (try simp at Z3); (try rw [Nat.add_one_le_iff] at Z3)) | fail)
  have cF := followC_any (w.heap.size + 2) tb k vp vn vi w3 (HW2.out.upd U3).tree hkt hkb.1 hkb.2
  rw [show k.c = clr k.set from rfl] at cF
  with_reducible refine cF.mono ?_
  rintro e w4 ⟨⟨vv, rfl⟩, hP4⟩
  obtain ⟨vp4, vn4, vi4, hW4⟩ := (HW2.out.upd U3).tr hP4
  have HW4 := Lib.hid hW4
  clear hP4 hW4 U3 B3 Z3 cF
  have HL : Hid (d = bs d.data.toList) := (bs_self d).symm
  generalize d.data.toList = L at *
  have hLs := bs_size L
  have hd2 : L.length ≤ 2000 := by omega
  rw [HL.out]
  clear hdl hd
  go_wp2
  go_loopw [7, 8] (fun q i wr => RelLi (learnN L.length k.cleared L) k L tb w q i wr) (fun _ i _ => L.length - (intOf i).toNat)
  case atStart => exact ⟨k.cleared, 0, vp4, vn4, vi4, L.length, 0, rfl, rfl, ⟨by omega, Nat.zero_le _, by rw [List.drop_zero], KnD.cleared_ok HK.out, rfl⟩, HW4.out⟩
  case round =>
    obtain ⟨k1, n, vp, vn, vi, m, y, rfl, rfl, hD, hW⟩ := hrel
    have hle := hD.le
    have HD := Lib.hid hD
    have HW := Lib.hid hW
    have hpl1 := hD.ok.nums.2.2.2.1
    obtain ⟨ap, cp, rfl⟩ := hW.tree.shape
    have htb := hW.tree.lt
    obtain ⟨c0, c1, c2, c3, c4, c5, c6, c7⟩ := hW.tree.cells
    by_cases hlt : n < L.length
    · have cG := fun wq => growI_any k1.set k1.base k1.last ap k1.ps.length cp wq hD.ok.set (by omega)
      rw [growN_eq] at cG
      simp only [knV] at cG
      obtain ⟨hfw, hxc, hlp, hll, hD9⟩ := hD.step hlt HLl.out
      have hok2 := hD.ok
      have hset := hD.set
      have cL := fun wq hT => longest_any (w.heap.size + 2) tb k1 (.slice ap k1.ps.length cp) vn vi (bs (L.drop n)) wq hT hok2 (by rw [bs_size, List.length_drop]; omega) (by rw [bs_size, List.length_drop]; omega) (by rw [bs_data, c_of hset]; exact fun b hb => HLl.out b (List.mem_of_mem_drop hb))
      rw [bs_data] at cL
      have cG2 := fun wq hT => followW_any (w.heap.size + 2) tb k1 (.slice ap k1.ps.length cp) vn vi (k1.find (k1.longest (L.drop n))) wq hT hok2 hxc hfw
      have hbd : Hid ((bs L).extract n L.length = bs (L.drop n)) := bs_drop' L n L.length rfl
      have HD9 := Lib.hid hD9
      clear hD9 hfw hxc hok2 hset hD hW
      generalize hx : k1.find (k1.longest (L.drop n)) = x at *
      generalize hnl : (k1.longest (L.drop n)).length = n1 at *
      generalize hka : k1.after x = k9 at *
      clear hx hnl hka
      cases hg : k1.grow
      all_goals
        rw [hg] at cG
        clear hg
        go_wp2_with (first | ((go_at_call 138; (with_reducible refine (cG _).mono ?_); rintro e w5 ⟨rfl, U5⟩; have B5 := bcell U5; have Z5 := U5.size; (try simp at Z5); (try rw [Nat.add_one_le_iff] at Z5))) | fail)
        have htb5 := Nat.lt_of_lt_of_le htb U5.size
        rw [hbd.out]
        with_reducible refine (cL _ (HW.out.upd U5).tree).mono ?_
        rintro e w6 ⟨rfl, U6⟩
        go_wp2_with fail
        with_reducible refine (cG2 _ ((HW.out.upd U5).upd U6).tree).mono ?_
        rintro e w7 ⟨⟨vv, rfl⟩, hP7⟩
        obtain ⟨vp7, vn7, vi7, hW7⟩ := ((HW.out.upd U5).upd U6).tr hP7
        go_wp2
        go_roundw
        case rel => exact ⟨k9, n + n1, vp7, vn7, vi7, m - 1, _, rfl, by go_num, HD9.out, hW7⟩
        case measure => simp [intOf]; omega
    · have e : n = L.length := by omega
      subst e
      have htot := hD.tot
      rw [List.drop_length, learnN_nil] at htot
      have HE : Hid (learnK k L = ⟨k1.set, k1.ps, k1.ps.length, -1⟩) := by unfold Hid learnK; rw [← htot, hD.set]
      have cY := fun wx hr => copyI_any k1 (.slice ap k1.ps.length cp) (w.heap.size + 2) wx hr (by omega)
      have hrd := RdP.of_own hW.tree.prs
      clear htot hD hW HW4 HW2 HD
      simp only [kV] at *
      go_wp2_with (go_at_call 140; (with_reducible refine (cY _ hrd).mono ?_); rintro e w5 ⟨v5, rfl, ho5, U5⟩; obtain ⟨a5, c5, rfl⟩ := ownsRow_shape ho5; obtain ⟨hRl, q0, q1, q2, q3, q4, q5⟩ := (HW.out.upd U5).res.cells; have hfr := box_free (HW.out.upd U5).res; have HO := Lib.hid ho5; clear ho5)
      refine bodyPost_ret (v := .tuple #[kV ⟨k1.set, k1.ps, k1.ps.length, -1⟩ (.slice a5 k1.ps.length c5), .int .i64 y]) (by simp [results, Tryz.results84, go_sem, hRl, q0, q1, q2, q3, q4, q5]) rfl ⟨_, _, by rw [HE.out], ?_, ?_⟩
      · rw [HE.out]
        have hs := HW.out.up.size
        have hs2 := U5.size
        have hs3 := (HW.out.res.cells).1
        refine ownsRow_base (base := w.heap.size + 2) ?_ (by omega)
        repeat (first | (with_reducible refine ownsRow_setne ?_ (by omega) _ _) | (with_reducible refine ownsRow_up ?_ (Up.alloc (Up.refl _) _)))
        with_reducible refine ownsRow_base HO.out ?_
        omega
      · have hUU := HW.out.up
        (repeat (first | with_reducible exact Up.refl _ | with_reducible assumption | with_reducible refine Up.set ?_ (by first | exact Nat.le_refl _ | (simp only []; omega) | (simp; omega)) _ | with_reducible refine Up.alloc ?_ _ | with_reducible refine Up.drew ?_ | refine Up.trans ?_ (by with_reducible assumption)))

set_option maxRecDepth 100000 in
set_option maxHeartbeats 4000000 in
theorem learnKI_any (k : KnD) (v : Value) (lo : Nat) (d : ByteArray) (w : World) (h : k.Ok) (hv : k.last = -1 → k.base = k.ps.length) (hr : RdP lo w v k.ps) (hd : d.size ≤ 1073741824) :
    Calls Tryz.prog 124  #[kV k v, .string d] w (fun e w' => if fitsB k.set d.data.toList then KnPost2 (learnK k d.data.toList) w e w' else Same (.tuple #[noKn, .bool false]) w e w') := by
  have cV := fun wx hr => kvI_any k v lo wx h hv hr
  obtain ⟨-, hlb, -, -⟩ := setOk_bd h.set
  have cF := fun wx => fitsI_any k.set d wx (by omega) hd
  have hrt := fun (wq : World) (hu : Up w wq) => hr.up hu
  have hlen := ba_len d
  cases hf : fitsB k.set d.data.toList
  · rw [hf] at cF
    simp only [Bool.false_eq_true, if_false]
    obtain ⟨a, cap, rfl, -, -, -, -⟩ := hr
    clear h hv hf
    simp only [kV] at *
    go_enter Tryz.func124, Tryz.ntmps124
    go_wp2_with (first | ((go_at_call 150; (with_reducible refine (cV _ (hrt _ (by (repeat (first | with_reducible exact Up.refl _ | with_reducible assumption | with_reducible refine Up.set ?_ (by first | exact Nat.le_refl _ | (simp only []; omega) | (simp; omega)) _ | with_reducible refine Up.alloc ?_ _ | with_reducible refine Up.drew ?_ | refine Up.trans ?_ (by with_reducible assumption)))))).mono ?_); rintro e w1 ⟨rfl, U1⟩; have B1 := bcell U1; have Z1 := U1.size; (try simp at Z1); (try rw [Nat.add_one_le_iff] at Z1)); have Y1 : w.heap.size < w1.heap.size := (by have := U1.size; simp at this; omega)) | ((go_at_call 30; (with_reducible refine (cF _).mono ?_); rintro e w2 ⟨rfl, U2⟩; have B2 := bcell U2; have Z2 := U2.size; (try simp at Z2); (try rw [Nat.add_one_le_iff] at Z2)); obtain ⟨hRl, q0, q1, q2, q3, q4, q5⟩ := KnAt.cells (b := w.heap.size + 1) (k := ⟨⟨0, 0, 0⟩, [], 0, 0⟩) (v := .slice none 0 0) (box_up (U1.trans U2) (alloc2 w _ _)); have hfr := box_free (box_up (U1.trans U2) (alloc2 w _ _))))
    obtain ⟨-, q0, q1, q2, q3, q4, q5⟩ := KnAt.cells (b := w.heap.size + 1) (k := ⟨⟨0, 0, 0⟩, [], 0, 0⟩) (v := .slice none 0 0) (box_up (U1.trans U2) (alloc2 w _ _))
    refine bodyPost_ret (v := .tuple #[noKn, .bool false]) (by simp [results, Tryz.results124, go_sem, q0, q1, q2, q3, q4, q5]) rfl ⟨rfl, ?_⟩
    (repeat (first | with_reducible exact Up.refl _ | with_reducible assumption | with_reducible refine Up.set ?_ (by first | exact Nat.le_refl _ | (simp only []; omega) | (simp; omega)) _ | with_reducible refine Up.alloc ?_ _ | with_reducible refine Up.drew ?_ | refine Up.trans ?_ (by with_reducible assumption)))
  · rw [hf] at cF
    simp only [if_true]
    obtain ⟨-, h2, h3⟩ := fitsB_lits hf
    have cL := fun wx hr => learnI_any k v lo d wx h hr (by omega) h3
    obtain ⟨a, cap, rfl, -, -, -, -⟩ := hr
    clear h hv hf h3
    generalize learnK k d.data.toList = kk at *
    simp only [kV] at *
    go_enter Tryz.func124, Tryz.ntmps124
    go_wp2_with (first | ((go_at_call 150; (with_reducible refine (cV _ (hrt _ (by (repeat (first | with_reducible exact Up.refl _ | with_reducible assumption | with_reducible refine Up.set ?_ (by first | exact Nat.le_refl _ | (simp only []; omega) | (simp; omega)) _ | with_reducible refine Up.alloc ?_ _ | with_reducible refine Up.drew ?_ | refine Up.trans ?_ (by with_reducible assumption)))))).mono ?_); rintro e w1 ⟨rfl, U1⟩; have B1 := bcell U1; have Z1 := U1.size; (try simp at Z1); (try rw [Nat.add_one_le_iff] at Z1)); have Y1 : w.heap.size < w1.heap.size := (by have := U1.size; simp at this; omega)) | (go_at_call 30; (with_reducible refine (cF _).mono ?_); rintro e w2 ⟨rfl, U2⟩; have B2 := bcell U2; have Z2 := U2.size; (try simp at Z2); (try rw [Nat.add_one_le_iff] at Z2)) | (go_at_call 84; (with_reducible refine (cL _ (hrt _ (by (repeat (first | with_reducible exact Up.refl _ | with_reducible assumption | with_reducible refine Up.set ?_ (by first | exact Nat.le_refl _ | (simp only []; omega) | (simp; omega)) _ | with_reducible refine Up.alloc ?_ _ | with_reducible refine Up.drew ?_ | refine Up.trans ?_ (by with_reducible assumption)))))).mono ?_); rintro e w3 ⟨v3, y3, rfl, ho3, U3⟩; obtain ⟨a3, c3, rfl⟩ := ownsRow_shape ho3; have B3 := bcell U3; obtain ⟨hRl, q0, q1, q2, q3, q4, q5⟩ := KnAt.cells (b := w.heap.size + 1) (k := ⟨⟨0, 0, 0⟩, [], 0, 0⟩) (v := .slice none 0 0) (box_up (U1.trans (U2.trans U3)) (alloc2 w _ _)); have hfr := box_free (box_up (U1.trans (U2.trans U3)) (alloc2 w _ _)); have HO := Lib.hid ho3; clear ho3))
    obtain ⟨hRl, q0, q1, q2, q3, q4, q5⟩ := KnAt.cells (b := w.heap.size + 1) (k := ⟨⟨0, 0, 0⟩, [], 0, 0⟩) (v := .slice none 0 0) (box_up (U1.trans (U2.trans U3)) (alloc2 w _ _))
    refine bodyPost_ret (v := .tuple #[kV kk (.slice a3 kk.ps.length c3), .bool true]) (by simp [results, Tryz.results124, go_sem, hRl, q0, q1, q2, q3, q4, q5]) rfl ⟨_, rfl, ?_, ?_⟩
    · have hs := (U1.trans U2).size
      simp at hs
      refine ownsRow_base (base := w.heap.size + 2) ?_ (by omega)
      repeat (first | (with_reducible refine ownsRow_setne ?_ (by omega) _ _) | (with_reducible refine ownsRow_up ?_ (Up.alloc (Up.refl _) _)))
      with_reducible refine ownsRow_base HO.out ?_
      omega
    · (repeat (first | with_reducible exact Up.refl _ | with_reducible assumption | with_reducible refine Up.set ?_ (by first | exact Nat.le_refl _ | (simp only []; omega) | (simp; omega)) _ | with_reducible refine Up.alloc ?_ _ | with_reducible refine Up.drew ?_ | refine Up.trans ?_ (by with_reducible assumption)))

set_option maxRecDepth 100000 in
set_option maxHeartbeats 4000000 in
theorem startWI_any (s : SetD) (d : ByteArray) (w : World) (hl : -9223372036854775808 ≤ s.lit ∧ s.lit ≤ 9223372036854775807) (hd : d.size ≤ 1073741824) :
    Calls Tryz.prog 64  #[setV s, .string d] w (fun e w' => if fitsB s d.data.toList then KnPost2 (learnK (startK s) d.data.toList) w e w' else Same (.tuple #[noKn, .bool false]) w e w') := by
  cases hs : setOk s
  · have hf : fitsB s d.data.toList = false := by unfold fitsB; rw [hs]; rfl
    rw [hf]
    simp only [Bool.false_eq_true, if_false]
    have cS := fun wx => startI_no s wx hl hs
    clear hs hf
    simp only [setV] at *
    go_enter Tryz.func64, Tryz.ntmps64
    go_wp2_with ((go_at_call 83; (with_reducible refine (cS _).mono ?_); rintro e w1 ⟨rfl, U1⟩; have B1 := bcell U1; have Z1 := U1.size; (try simp at Z1); (try rw [Nat.add_one_le_iff] at Z1)); have Y1 : w.heap.size < w1.heap.size := (by have := U1.size; simp at this; omega); obtain ⟨hRl, q0, q1, q2, q3, q4, q5⟩ := KnAt.cells (b := w.heap.size + 1) (k := ⟨⟨0, 0, 0⟩, [], 0, 0⟩) (v := .slice none 0 0) (box_up U1 (alloc2 w _ _)); have hfr := box_free (box_up U1 (alloc2 w _ _)))
    obtain ⟨hRl, q0, q1, q2, q3, q4, q5⟩ := KnAt.cells (b := w.heap.size + 1) (k := ⟨⟨0, 0, 0⟩, [], 0, 0⟩) (v := .slice none 0 0) (box_up U1 (alloc2 w _ _))
    refine bodyPost_ret (v := .tuple #[noKn, .bool false]) (by simp [results, Tryz.results64, go_sem, hRl, q0, q1, q2, q3, q4, q5]) rfl ⟨rfl, ?_⟩
    (repeat (first | with_reducible exact Up.refl _ | with_reducible assumption | with_reducible refine Up.set ?_ (by first | exact Nat.le_refl _ | (simp only []; omega) | (simp; omega)) _ | with_reducible refine Up.alloc ?_ _ | with_reducible refine Up.drew ?_ | refine Up.trans ?_ (by with_reducible assumption)))
  · have cS := fun wx => startI_any s wx hs
    have cL := fun wx hr => learnKI_any (startK s) (.slice none 0 0) wx.heap.size d wx (startK_ok hs) (fun _ => rfl) hr hd
    have hrd : ∀ wx : World, RdP wx.heap.size wx (.slice none 0 0) (startK s).ps := fun wx => ⟨none, 0, rfl, Nat.le_refl _, by unfold maxLen; omega, fun _ => ⟨rfl, rfl⟩, fun h => absurd h (Nat.lt_irrefl _)⟩
    have cL' := fun wx => cL wx (hrd wx)
    have e1 : (startK s).set = s := rfl
    rw [e1] at cL'
    clear cL hrd hs e1
    cases hf : fitsB s d.data.toList
    · rw [hf] at cL'
      simp only [Bool.false_eq_true, if_false] at cL' ⊢
      simp only [setV, kV, startK] at *
      clear hf
      go_enter Tryz.func64, Tryz.ntmps64
      go_wp2_with (first | (go_at_call 83; (with_reducible refine (cS _).mono ?_); rintro e w1 ⟨rfl, U1⟩; have B1 := bcell U1; have Y1 : w.heap.size < w1.heap.size := (by have := U1.size; simp at this; omega); obtain ⟨hRl, q0, q1, q2, q3, q4, q5⟩ := KnAt.cells (b := w.heap.size + 1) (k := ⟨⟨0, 0, 0⟩, [], 0, 0⟩) (v := .slice none 0 0) (box_up U1 (alloc2 w _ _)); have hfr := box_free (box_up U1 (alloc2 w _ _))) | ((go_at_call 124; (with_reducible refine (cL' _).mono ?_); rintro e w2 ⟨rfl, U2⟩; have B2 := bcell U2; have Z2 := U2.size; (try simp at Z2); (try rw [Nat.add_one_le_iff] at Z2)); obtain ⟨hRl, q0, q1, q2, q3, q4, q5⟩ := KnAt.cells (b := w.heap.size + 1) (k := ⟨⟨0, 0, 0⟩, [], 0, 0⟩) (v := .slice none 0 0) (box_up U1 (box_up (Up.refl _) (alloc2 w _ _)) |> fun h => box_up U2 (box_up (Up.alloc (Up.refl _) _) h)); have hfr := box_free (box_up U2 (box_up (Up.alloc (Up.refl _) _) (box_up U1 (alloc2 w _ _))))))
      obtain ⟨hRl, q0, q1, q2, q3, q4, q5⟩ := KnAt.cells (b := w.heap.size + 1) (k := ⟨⟨0, 0, 0⟩, [], 0, 0⟩) (v := .slice none 0 0) (box_up (U1.trans ((Up.alloc (Up.refl _) _).trans U2)) (alloc2 w _ _))
      refine bodyPost_ret (v := .tuple #[noKn, .bool false]) (by simp [results, Tryz.results64, go_sem, hRl, q0, q1, q2, q3, q4, q5]) rfl ⟨rfl, ?_⟩
      (repeat (first | with_reducible exact Up.refl _ | with_reducible assumption | with_reducible refine Up.set ?_ (by first | exact Nat.le_refl _ | (simp only []; omega) | (simp; omega)) _ | with_reducible refine Up.alloc ?_ _ | with_reducible refine Up.drew ?_ | refine Up.trans ?_ (by with_reducible assumption)))
    · rw [hf] at cL'
      simp only [if_true] at cL' ⊢
      clear hf
      have e2 : (startK s).ps = [] := rfl
      generalize learnK (startK s) d.data.toList = kk at *
      simp only [setV, kV, startK] at *
      go_enter Tryz.func64, Tryz.ntmps64
      go_wp2_with (first | (go_at_call 83; (with_reducible refine (cS _).mono ?_); rintro e w1 ⟨rfl, U1⟩; have B1 := bcell U1; have Y1 : w.heap.size < w1.heap.size := (by have := U1.size; simp at this; omega)) | (go_at_call 124; (with_reducible refine (cL' _).mono ?_); rintro e w3 ⟨v3, rfl, ho3, U3⟩; obtain ⟨a3, c3, rfl⟩ := ownsRow_shape ho3; obtain ⟨hRl, q0, q1, q2, q3, q4, q5⟩ := KnAt.cells (b := w.heap.size + 1) (k := ⟨⟨0, 0, 0⟩, [], 0, 0⟩) (v := .slice none 0 0) (box_up (U1.trans ((Up.alloc (Up.refl _) _).trans U3)) (alloc2 w _ _)); have hfr := box_free (box_up (U1.trans ((Up.alloc (Up.refl _) _).trans U3)) (alloc2 w _ _)); have HO := Lib.hid ho3; clear ho3))
      obtain ⟨hRl, q0, q1, q2, q3, q4, q5⟩ := KnAt.cells (b := w.heap.size + 1) (k := ⟨⟨0, 0, 0⟩, [], 0, 0⟩) (v := .slice none 0 0) (box_up (U1.trans ((Up.alloc (Up.refl _) _).trans U3)) (alloc2 w _ _))
      refine bodyPost_ret (v := .tuple #[kV kk (.slice a3 kk.ps.length c3), .bool true]) (by simp [results, Tryz.results64, go_sem, hRl, q0, q1, q2, q3, q4, q5]) rfl ⟨_, rfl, ?_, ?_⟩
      · have hs := U1.size
        simp at hs
        refine ownsRow_base (base := w.heap.size + 2) ?_ (by omega)
        repeat (with_reducible refine ownsRow_setne ?_ (by omega) _ _)
        exact ownsRow_base HO.out (by simp; omega)
      · (repeat (first | with_reducible exact Up.refl _ | with_reducible assumption | with_reducible refine Up.set ?_ (by first | exact Nat.le_refl _ | (simp only []; omega) | (simp; omega)) _ | with_reducible refine Up.alloc ?_ _ | with_reducible refine Up.drew ?_ | refine Up.trans ?_ (by with_reducible assumption)))

end Go.Proofs.YtekbbnkkninolaaGreat

/- Slices of strings: those that came in, and the laws' helpers that measure, copy and compare them. Conditions: as each says. -/
namespace Go.Proofs.YtekbbnkkninolaaGreat
set_option linter.unusedVariables false
set_option linter.unusedSimpArgs false
open Go Go.RowKit Go.ChangeShapes

theorem infoStr : (Tryz.prog.info? 9).map (fun i => (i.zero, i.size, i.bytes)) = some (some (.string ByteArray.empty), 1, 16) := by kernel_rfl
def cellsS (l : List ByteArray) : List Value := l.map Value.string
/-- A slice of strings that can be read. -/
def ArgS (w : World) (v : Value) (l : List ByteArray) : Prop := ∃ a cap, v = .slice a l.length cap ∧ l.length ≤ maxLen ∧ (∀ s ∈ l, s.size ≤ maxLen) ∧ (0 < l.length → ∃ b off, a = some ⟨b, off, none⟩ ∧ l.length ≤ cap ∧ cap ≤ maxLen ∧ b < w.heap.size ∧ ∀ i s, l[i]? = some s → w.cell? ⟨b, off + i, none⟩ = some (.string s))
theorem ArgS.up {w w' : World} {v : Value} {l : List ByteArray} (h : ArgS w v l) (hu : Up w w') : ArgS w' v l := by
  obtain ⟨a, cap, h1, h2, h2', h3⟩ := h
  refine ⟨a, cap, h1, h2, h2', fun hp => ?_⟩
  obtain ⟨b, off, e1, e2, e3, e4, e5⟩ := h3 hp
  exact ⟨b, off, e1, e2, e3, Nat.lt_of_lt_of_le e4 hu.size, fun i p hi => (hu.cell (p := ⟨b, _, none⟩) e4).trans (e5 i p hi)⟩
def ownS (w : World) (base : Nat) (v : Value) (l : List ByteArray) : Prop := w.ownsRow base 9 1 v l.length (cellsS l)
theorem ArgS.of_own {w : World} {base : Nat} {v : Value} {l : List ByteArray} (h : ownS w base v l) (hs : ∀ s ∈ l, s.size ≤ maxLen) : ArgS w v l := by
  rcases ownsRow_read h with ⟨rfl, h2⟩ | ⟨g, cap, rfl, h1, h2, h3, h4, h5⟩
  · exact ⟨none, 0, by rw [h2], by rw [h2]; exact Nat.zero_le _, hs, fun h => by omega⟩
  · refine ⟨some ⟨g, 0, none⟩, cap, rfl, by omega, hs, fun _ => ⟨g, 0, rfl, h1, h2, h4, fun i x hi => ?_⟩⟩
    rw [Nat.zero_add]
    refine h5 _ _ ?_
    simp [cellsS, hi]
theorem ArgS.at {w : World} {a : Option Addr} {n c : Nat} {l : List ByteArray} (h : ArgS w (.slice a n c) l) {i : Nat} (hi : i < l.length) : ∃ b off, a = some ⟨b, off, none⟩ ∧ b < w.heap.size ∧ w.cell? ⟨b, off + i, none⟩ = some (.string l[i]) ∧ n = l.length ∧ n ≤ c ∧ c ≤ maxLen := by
  obtain ⟨a', c', e, h1, h2, h3⟩ := h
  cases e
  obtain ⟨b, off, e1, e2, e3, e4, e5⟩ := h3 (by omega)
  exact ⟨b, off, e1, e4, e5 i _ (List.getElem?_eq_getElem hi), rfl, e2, e3⟩

end Go.Proofs.YtekbbnkkninolaaGreat

/- Walks of the program's PackCodes, GreedyCodes, Compress. Conditions: what is known is valid and can be read. -/
namespace Go.Proofs.YtekbbnkkninolaaGreat
set_option linter.unusedVariables false
set_option linter.unusedSimpArgs false
open Go Go.RowKit

theorem packC_len10 (o : Int) : ∀ (xs ws : List Int), (∀ w ∈ ws, 0 ≤ w ∧ w ≤ 10) → (packC o xs ws).length ≤ 10 * ws.length
  | [], ws, _ => by simp [packC]
  | _ :: _, [], _ => by simp [packC]
  | x :: xs, w :: ws, h => by
    simp only [packC, List.length_append, codeL_length, List.length_cons]
    have h1 := h w (List.mem_cons_self ..)
    have h2 := packC_len10 o xs ws fun v hv => h v (List.mem_cons_of_mem _ hv)
    omega

set_option maxRecDepth 100000 in
set_option maxHeartbeats 1000000 in
theorem packBI_any (o : Int) (s : ByteArray) (w : World) (ho : o = 0 ∨ o = 1) (hb : isBits s.data.toList) (hs : s.size ≤ 32000) :
    Calls Tryz.prog 156  #[.int .i64 o, .string s] w (Same (.tuple #[.string (bs (packL o s.data.toList)), .bool true]) w) := by
  have cO := fun w => orderI_any o w
  have cV := fun w => bitsVI_any s w hb hs
  have cP := fun w => packI_any o s w ho hb (by omega)
  have ho1 : (o == 0 || o == 1) = true := by rcases ho with rfl | rfl <;> rfl
  rw [ho1] at cO
  clear hb ho ho1
  go_enter Tryz.func156, Tryz.ntmps156
  go_wp2_with (first | (go_at_call 133; (with_reducible refine (cO _).mono ?_); rintro e w' ⟨rfl, rfl⟩) | (go_at_call 186; (with_reducible refine (cV _).mono ?_); rintro e w' ⟨rfl, rfl⟩) | (go_at_call 187; (with_reducible refine (cP _).mono ?_); rintro e w3 ⟨rfl, U3⟩; have B3 := bcell U3; have Z3 := U3.size; (try simp at Z3); (try rw [Nat.add_one_le_iff] at Z3)))
  go_ret2
  exact ⟨rfl, U3⟩

theorem nil_row {w : World} {base : Nat} {e : TypeId} {size n c : Nat} {a : Option Addr} {xs : List Value} (h : w.ownsRow base e size (.slice a n c) n xs) : a = none → n = 0 ∧ c = 0 := fun ha => by
  subst ha
  rcases h.2 with ⟨e1, _⟩ | ⟨g, cp, cur, e1, _⟩
  · simpa using e1
  · simp at e1
theorem clipI_any (a : Option Addr) (n c : Nat) (w : World) (h : n ≤ c) (hc : c ≤ 9223372036854775807) (ha : a = none → n = 0 ∧ c = 0) :
    Calls Tryz.prog 152 #[.slice a n c] w (fun e w' => e = .returned (.slice a n n) ∧ w = w') := by
  cases a with
  | none =>
    obtain ⟨h1, h2⟩ := ha rfl
    subst h1; subst h2
    go_enter Tryz.func152, Tryz.ntmps152
    go_wp2
    go_ret
    exact ⟨rfl, rfl⟩
  | some ad =>
    clear ha
    go_enter Tryz.func152, Tryz.ntmps152
    go_wp2
    go_ret
    exact ⟨rfl, rfl⟩

def RelPc (o : Int) (codes ws : List Int) (a0 : World) (out i : Value) (wr : World) : Prop := ∃ n : Nat, i = .int .i64 n ∧ n ≤ codes.length ∧ ownU wr a0.heap.size out (packC o (codes.take n) (ws.take n)) ∧ Up a0 wr

set_option maxRecDepth 100000 in
set_option maxHeartbeats 8000000 in
theorem packCI_any (k : KnD) (v : Value) (lo : Nat) (codes : List Int) (vc : Value) (lc : Nat) (w : World) (h : k.Ok) (hv : k.last = -1 → k.base = k.ps.length) (hr : RdP lo w v k.ps) (hc : RdI lc w vc codes) (hl : codes.length ≤ 3100) (hT : (walkN k codes [] []).ok = true) (hD : (walkN k codes [] []).data.length ≤ 2000)
    (hw : (walkN k codes [] []).ws.length = codes.length) (hcb : ∀ x ∈ codes, 0 ≤ x ∧ x ≤ 1048576) (hwb : ∀ x ∈ (walkN k codes [] []).ws, 0 ≤ x ∧ x ≤ 10) :
    Calls Tryz.prog 128  #[kV k v, vc] w (Same (.tuple #[.string (bs (packL k.set.ord (packC k.set.ord codes (walkN k codes [] []).ws))), .bool true]) w) := by
  have cW := fun wx hr hc => walkI_any k v lo codes vc lc wx h hv hr hc hl hT hD
  have hrt := fun (wq : World) (hu : Up w wq) => hr.up hu
  have hct := fun (wq : World) (hu : Up w wq) => hc.up hu
  have ho := (setOk_bd h.set).1
  obtain ⟨a, cap, rfl, -, -, -, -⟩ := hr
  obtain ⟨ac, cc, rfl, hcc1, hcc2, -⟩ := id hc
  unfold maxLen at hcc2
  have hpl := packC_len10 k.set.ord codes _ hwb
  have hib := isBits_packC k.set.ord codes (walkN k codes [] []).ws
  clear hT hD
  generalize walkN k codes [] [] = T at *
  have hwl : T.ws.length ≤ 3100 := by omega
  have cP := fun wx => packBI_any k.set.ord (bs (packC k.set.ord codes T.ws)) wx ho (by rw [bs_data]; exact hib) (by rw [bs_size]; omega)
  rw [bs_data] at cP
  have HW := Lib.hid hw
  have HCB := Lib.hid hcb
  have HWB := Lib.hid hwb
  clear h hv hw hcb hwb hib
  simp only [kV] at *
  go_enter Tryz.func128, Tryz.ntmps128
  go_wp2_with (go_at_call 154; (with_reducible refine (cW _ (hrt _ (by (repeat (first | with_reducible exact Up.refl _ | with_reducible assumption | with_reducible refine Up.set ?_ (by first | exact Nat.le_refl _ | (simp only []; omega) | (simp; omega)) _ | with_reducible refine Up.alloc ?_ _ | with_reducible refine Up.drew ?_ | refine Up.trans ?_ (by with_reducible assumption))))) (hct _ (by (repeat (first | with_reducible exact Up.refl _ | with_reducible assumption | with_reducible refine Up.set ?_ (by first | exact Nat.le_refl _ | (simp only []; omega) | (simp; omega)) _ | with_reducible refine Up.alloc ?_ _ | with_reducible refine Up.drew ?_ | refine Up.trans ?_ (by with_reducible assumption)))))).mono ?_); rintro e w1 ⟨vw, rfl, ho1, U1⟩; obtain ⟨aw, cw, rfl⟩ := ownsRow_shape ho1; have B1 := bcell U1; have HO1 := Lib.hid ho1; clear ho1)
  have hU1 : Up w w1 := by (repeat (first | with_reducible exact Up.refl _ | with_reducible assumption | with_reducible refine Up.set ?_ (by first | exact Nat.le_refl _ | (simp only []; omega) | (simp; omega)) _ | with_reducible refine Up.alloc ?_ _ | with_reducible refine Up.drew ?_ | refine Up.trans ?_ (by with_reducible assumption)))
  have HK1 : KnAt w.heap.size k (.slice a k.ps.length cap) w1 := box_up U1 (MapKept.heap_alloc w _).1
  have HK := Lib.hid HK1
  clear hrt HK1 U1 B1 cW
  go_loopw [9, 23] (fun out i wr => RelPc k.set.ord codes T.ws w1 out i wr) (fun _ i _ => codes.length - (intOf i).toNat)
  case atStart => exact ⟨0, rfl, Nat.zero_le _, World.ownsRow_nil _ _ _ _, Up.refl _⟩
  case round =>
    obtain ⟨n, rfl, hle, hown, hup⟩ := hrel
    have hdl : (packC k.set.ord (codes.take n) (T.ws.take n)).length ≤ 131072 := by
      have := packC_len10 k.set.ord (codes.take n) (T.ws.take n) (fun x hx => HWB.out x (List.mem_of_mem_take hx))
      rw [List.length_take] at this
      omega
    obtain ⟨-, r0, r1, r2, r3, r4, r5⟩ := (HK.out.up hup).cells
    obtain ⟨ad, cd, rfl⟩ := ownsRow_shape hown
    have HOW := Lib.hid hown
    have HUP := Lib.hid hup
    by_cases hlt : n < codes.length
    · have hlt2 : n < T.ws.length := by have := HW.out; omega
      obtain ⟨bc, oc, rfl, hbc1, hbc2, -, -, -, -⟩ := RdI.at (hct _ (hU1.trans hup)) hlt
      obtain ⟨bw, ow, rfl, hbw1, hbw2, -, hbw4, hbw5, -⟩ := RdI.at (RdI.of_own (ownsRow_up HO1.out hup)) hlt2
      have hb := HCB.out _ (List.getElem_mem hlt)
      have hb2 := HWB.out _ (List.getElem_mem hlt2)
      obtain ⟨xn, hxn⟩ := Int.eq_ofNat_of_zero_le hb.1
      obtain ⟨wn, hwn⟩ := Int.eq_ofNat_of_zero_le hb2.1
      have cB := fun wq hu hown => bitsI_any w1 k.set.ord xn wn (.slice ad (packC k.set.ord (codes.take n) (T.ws.take n)).length cd) (packC k.set.ord (codes.take n) (T.ws.take n)) wq ho (by omega) (by omega) (by omega) hu hown
      have HS : Hid (packC k.set.ord (codes.take (n + 1)) (T.ws.take (n + 1)) = packC k.set.ord (codes.take n) (T.ws.take n) ++ codeL k.set.ord xn wn) := by
        unfold Hid
        rw [packC_take k.set.ord HW.out.symm hlt, hxn, hwn]; rfl
      rw [hxn] at hbc2
      rw [hwn] at hbw2
      unfold maxLen at hbw5
      generalize packC k.set.ord (codes.take n) (T.ws.take n) = dn at *
      clear hb hb2 hxn hwn hown hup
      go_wp2
      refine wp_region_upR 9 (by kernel_rfl) (by kernel_rfl) ?_
      simp only [List.take, List.drop]
      repeat (refine wpUp_step (fun K hK => ?_); go_simp; (try simp only [↓IntWalk.iteOmega]); first
        | (refine hK _ _ ?_; clear hK K)
        | (apply stepU_c
           · intro wq hwq; (have hbq := bcell hwq; (repeat (first | refine fills_no (by rfl) ?_ | refine fills_yes (by rfl) (fun vq hvq => ?_))); simp only [List.filter_nil, fills]; unfold upAt; (try ((obtain ⟨-, r0, r1, r2, r3, r4, r5⟩ := (HK.out.up (HUP.out.trans hwq)).cells; have hbw3 := (hwq.cell (p := ⟨bw, ow + n, none⟩) hbw1).trans hbw2))); go_simp; (try go_bits); (try simp only [↓IntWalk.iteOmega]); (try (rw [dif_pos (by omega)]; go_simp; try go_bits)); first | exact upOut_value)
           go_simp; refine hK _ _ ?_; clear hK K))
      refine wpUp_nil (fun wq hwq => ?_)
      simp only [fills]
      go_wp2_with fail
      with_reducible refine (cB _ (HUP.out.trans hwq) (ownsRow_up HOW.out hwq)).mono ?_
      rintro e w5 ⟨v5, rfl, ho5, hU5⟩
      obtain ⟨a5, c5, rfl⟩ := ownsRow_shape (ownsRow_n2 (n' := dn.length + (codeL k.set.ord xn wn).length) ho5 (by simp))
      have HO5 := Lib.hid ho5
      clear ho5
      go_wp2
      go_roundw
      case rel => exact ⟨n + 1, by go_num, by omega, by rw [HS.out]; exact HO5.out, hU5⟩
      case measure => simp [intOf]; omega
    · have e : n = codes.length := by omega
      subst e
      have ht1 : codes.take codes.length = codes := List.take_length
      have ht2 : T.ws.take codes.length = T.ws := by rw [← HW.out]; exact List.take_length
      rw [ht1, ht2] at hown hdl ⊢
      have cv := conv_any hown rfl
      clear hown ht1 ht2 HOW
      generalize packC k.set.ord codes T.ws = dn at *
      go_wp2_with ((go_at_call 156; (with_reducible refine (cP _).mono ?_); rintro e w5 ⟨rfl, U5⟩; have B5 := bcell U5; have Z5 := U5.size; (try simp at Z5); (try rw [Nat.add_one_le_iff] at Z5)))
      go_ret2
      exact ⟨rfl, hU1.trans (hup.trans U5)⟩

/-- What GreedyCodes gives. -/
def GcPost (l : List Int) (w : World) (e : Ending) (w' : World) : Prop := ∃ v, e = .returned (.tuple #[v, .bool true]) ∧ RdI 0 w' v l ∧ Up w w'

set_option maxRecDepth 100000 in
set_option maxHeartbeats 4000000 in
theorem gcodesI_any (k : KnD) (v : Value) (lo : Nat) (d : ByteArray) (w : World) (h : k.Ok) (hv : k.last = -1 → k.base = k.ps.length) (hr : RdP lo w v k.ps) (hd : d.size ≤ 1073741824) :
    Calls Tryz.prog 127  #[kV k v, .string d] w (fun e w' => if fitsB k.set d.data.toList then GcPost (greedy k d.data.toList) w e w' else Same (.tuple #[.slice none 0 0, .bool false]) w e w') := by
  have cV := fun wx hr => kvI_any k v lo wx h hv hr
  obtain ⟨-, hlb, -, -⟩ := setOk_bd h.set
  have cF := fun wx => fitsI_any k.set d wx (by omega) hd
  have hrt := fun (wq : World) (hu : Up w wq) => hr.up hu
  have hlen := ba_len d
  cases hf : fitsB k.set d.data.toList
  · rw [hf] at cF
    simp only [Bool.false_eq_true, if_false]
    obtain ⟨a, cap, rfl, -, -, -, -⟩ := hr
    clear h hv hf
    simp only [kV] at *
    go_enter Tryz.func127, Tryz.ntmps127
    go_wp2_with (first | (go_at_call 150; (with_reducible refine (cV _ (hrt _ (by (repeat (first | with_reducible exact Up.refl _ | with_reducible assumption | with_reducible refine Up.set ?_ (by first | exact Nat.le_refl _ | (simp only []; omega) | (simp; omega)) _ | with_reducible refine Up.alloc ?_ _ | with_reducible refine Up.drew ?_ | refine Up.trans ?_ (by with_reducible assumption)))))).mono ?_); rintro e w1 ⟨rfl, U1⟩; have B1 := bcell U1; have Z1 := U1.size; (try simp at Z1); (try rw [Nat.add_one_le_iff] at Z1)) | (go_at_call 30; (with_reducible refine (cF _).mono ?_); rintro e w2 ⟨rfl, U2⟩; have B2 := bcell U2; have Z2 := U2.size; (try simp at Z2); (try rw [Nat.add_one_le_iff] at Z2)))
    go_ret2
    refine ⟨rfl, ?_⟩
    (repeat (first | with_reducible exact Up.refl _ | with_reducible assumption | with_reducible refine Up.set ?_ (by first | exact Nat.le_refl _ | (simp only []; omega) | (simp; omega)) _ | with_reducible refine Up.alloc ?_ _ | with_reducible refine Up.drew ?_ | refine Up.trans ?_ (by with_reducible assumption)))
  · rw [hf] at cF
    simp only [if_true]
    obtain ⟨-, h2, h3⟩ := fitsB_lits hf
    have cG := fun wx hr => greedy_any k v lo d wx h hr (by omega) h3
    obtain ⟨a, cap, rfl, -, -, -, -⟩ := hr
    clear h hv hf h3
    generalize greedy k d.data.toList = codes at *
    simp only [kV] at *
    go_enter Tryz.func127, Tryz.ntmps127
    go_wp2_with (first | (go_at_call 150; (with_reducible refine (cV _ (hrt _ (by (repeat (first | with_reducible exact Up.refl _ | with_reducible assumption | with_reducible refine Up.set ?_ (by first | exact Nat.le_refl _ | (simp only []; omega) | (simp; omega)) _ | with_reducible refine Up.alloc ?_ _ | with_reducible refine Up.drew ?_ | refine Up.trans ?_ (by with_reducible assumption)))))).mono ?_); rintro e w1 ⟨rfl, U1⟩; have B1 := bcell U1; have Z1 := U1.size; (try simp at Z1); (try rw [Nat.add_one_le_iff] at Z1)) | (go_at_call 30; (with_reducible refine (cF _).mono ?_); rintro e w2 ⟨rfl, U2⟩; have B2 := bcell U2; have Z2 := U2.size; (try simp at Z2); (try rw [Nat.add_one_le_iff] at Z2)) | (go_at_call 153; (with_reducible refine (cG _ (hrt _ (by (repeat (first | with_reducible exact Up.refl _ | with_reducible assumption | with_reducible refine Up.set ?_ (by first | exact Nat.le_refl _ | (simp only []; omega) | (simp; omega)) _ | with_reducible refine Up.alloc ?_ _ | with_reducible refine Up.drew ?_ | refine Up.trans ?_ (by with_reducible assumption)))))).mono ?_); rintro e w3 ⟨v3, rfl, ho3, U3⟩; have hrd3 := RdI.of_own ho3; obtain ⟨a3, c3, rfl⟩ := ownsRow_shape ho3; have hcp3 := ownsRow_cap ho3; have hn3 := nil_row ho3; have HRD := Lib.hid hrd3; clear hrd3 ho3) | (go_at_call 152; (with_reducible refine (clipI_any _ _ _ _ hcp3.1 hcp3.2 hn3).mono ?_); rintro e w' ⟨rfl, rfl⟩))
    go_ret2
    refine ⟨_, rfl, ?_, by (repeat (first | with_reducible exact Up.refl _ | with_reducible assumption | with_reducible refine Up.set ?_ (by first | exact Nat.le_refl _ | (simp only []; omega) | (simp; omega)) _ | with_reducible refine Up.alloc ?_ _ | with_reducible refine Up.drew ?_ | refine Up.trans ?_ (by with_reducible assumption)))⟩
    obtain ⟨a', cap', e1, e2, e3, e4⟩ := HRD.out
    cases e1
    exact ⟨_, _, rfl, Nat.le_refl _, by omega, fun hp => by
      obtain ⟨b, off, f1, f2, f3, f4⟩ := e4 hp
      exact ⟨b, off, f1, Nat.zero_le _, f3, f4⟩⟩

set_option maxRecDepth 100000 in
set_option maxHeartbeats 4000000 in
theorem compI_any (k : KnD) (v : Value) (lo : Nat) (d : ByteArray) (w : World) (h : k.Ok) (hv : k.last = -1 → k.base = k.ps.length) (hr : RdP lo w v k.ps) (hd : d.size ≤ 1073741824) :
    Calls Tryz.prog 78  #[kV k v, .string d] w (Same (optS (compO k d.data.toList)) w) := by
  have cG := fun wx hr => gcodesI_any k v lo d wx h hv hr hd
  have hrt := fun (wq : World) (hu : Up w wq) => hr.up hu
  have hlen := ba_len d
  unfold compO optS
  cases hf : fitsB k.set d.data.toList
  · rw [hf] at cG
    simp only [Bool.false_eq_true, if_false] at cG ⊢
    obtain ⟨a, cap, rfl, -, -, -, -⟩ := hr
    clear h hv hf
    simp only [kV] at *
    go_enter Tryz.func78, Tryz.ntmps78
    go_wp2_with ((go_at_call 127; (with_reducible refine (cG _ (hrt _ (by (repeat (first | with_reducible exact Up.refl _ | with_reducible assumption | with_reducible refine Up.set ?_ (by first | exact Nat.le_refl _ | (simp only []; omega) | (simp; omega)) _ | with_reducible refine Up.alloc ?_ _ | with_reducible refine Up.drew ?_ | refine Up.trans ?_ (by with_reducible assumption)))))).mono ?_); rintro e w1 ⟨rfl, U1⟩; have B1 := bcell U1; have Z1 := U1.size; (try simp at Z1); (try rw [Nat.add_one_le_iff] at Z1)))
    go_ret2
    refine ⟨rfl, ?_⟩
    (repeat (first | with_reducible exact Up.refl _ | with_reducible assumption | with_reducible refine Up.set ?_ (by first | exact Nat.le_refl _ | (simp only []; omega) | (simp; omega)) _ | with_reducible refine Up.alloc ?_ _ | with_reducible refine Up.drew ?_ | refine Up.trans ?_ (by with_reducible assumption)))
  · rw [hf] at cG
    simp only [if_true] at cG ⊢
    obtain ⟨-, h2, h3⟩ := fitsB_lits hf
    obtain ⟨g1, g2, g3, g4, g5⟩ := walk_greedy h h3 (by omega)
    have g6 := greedy_tight h h3 (by omega)
    have cP := fun wx vc hr hc => packCI_any k v lo (greedy k d.data.toList) vc 0 wx h hv hr hc (by omega) g3 (by rw [g2]; omega) g1 (fun x hx => ⟨(g5 x hx).1, by have := (g5 x hx).2; omega⟩) (fun x hx => ⟨by have := (g4 x hx).1; omega, (g4 x hx).2⟩)
    have HE : Hid (compL k d.data.toList = packL k.set.ord (packC k.set.ord (greedy k d.data.toList) (walkN k (greedy k d.data.toList) [] []).ws)) := rfl
    simp only [Option.getD_some, Option.isSome_some]
    rw [HE.out]
    generalize packL k.set.ord (packC k.set.ord (greedy k d.data.toList) (walkN k (greedy k d.data.toList) [] []).ws) = cl at *
    clear g1 g2 g3 g4 g5 g6 HE hf h3
    generalize greedy k d.data.toList = codes at *
    obtain ⟨a, cap, rfl, -, -, -, -⟩ := hr
    clear h hv
    simp only [kV] at *
    go_enter Tryz.func78, Tryz.ntmps78
    go_wp2_with (first | (go_at_call 127; (with_reducible refine (cG _ (hrt _ (by (repeat (first | with_reducible exact Up.refl _ | with_reducible assumption | with_reducible refine Up.set ?_ (by first | exact Nat.le_refl _ | (simp only []; omega) | (simp; omega)) _ | with_reducible refine Up.alloc ?_ _ | with_reducible refine Up.drew ?_ | refine Up.trans ?_ (by with_reducible assumption)))))).mono ?_); rintro e w1 ⟨v1, rfl, hr1, U1⟩; have B1 := bcell U1; have HR1 := Lib.hid hr1; obtain ⟨a1, c1, rfl, -, -, -⟩ := hr1) | (go_at_call 128; (with_reducible refine (cP _ _ (hrt _ (by (repeat (first | with_reducible exact Up.refl _ | with_reducible assumption | with_reducible refine Up.set ?_ (by first | exact Nat.le_refl _ | (simp only []; omega) | (simp; omega)) _ | with_reducible refine Up.alloc ?_ _ | with_reducible refine Up.drew ?_ | refine Up.trans ?_ (by with_reducible assumption))))) HR1.out).mono ?_); rintro e w2 ⟨rfl, U2⟩; have B2 := bcell U2; have Z2 := U2.size; (try simp at Z2); (try rw [Nat.add_one_le_iff] at Z2)))
    go_ret2
    refine ⟨rfl, ?_⟩
    (repeat (first | with_reducible exact Up.refl _ | with_reducible assumption | with_reducible refine Up.set ?_ (by first | exact Nat.le_refl _ | (simp only []; omega) | (simp; omega)) _ | with_reducible refine Up.alloc ?_ _ | with_reducible refine Up.drew ?_ | refine Up.trans ?_ (by with_reducible assumption)))

end Go.Proofs.YtekbbnkkninolaaGreat

/- Walks of the program's CompressWith, SealStream, makeBlock, BlockOf, and of the reference's SealStream. Conditions: the strings are no longer than 2^30 bytes. -/
namespace Go.Proofs.YtekbbnkkninolaaGreat
set_option linter.unusedVariables false
set_option linter.unusedSimpArgs false
open Go Go.RowKit

set_option maxRecDepth 100000 in
set_option maxHeartbeats 4000000 in
theorem compWI_any (s : SetD) (dict d : ByteArray) (w : World) (hl : -9223372036854775808 ≤ s.lit ∧ s.lit ≤ 9223372036854775807) (hi : dict.size ≤ 1073741824) (hd : d.size ≤ 1073741824) :
    Calls Tryz.prog 28  #[setV s, .string dict, .string d] w (Same (optS (compW s dict.data.toList d.data.toList)) w) := by
  have cS := fun wx => startWI_any s dict wx hl hi
  unfold compW
  cases hf : fitsB s dict.data.toList
  · rw [hf] at cS
    simp only [Bool.false_eq_true, if_false] at cS ⊢
    unfold optS
    clear hf
    simp only [setV] at *
    go_enter Tryz.func28, Tryz.ntmps28
    go_wp2_with ((go_at_call 64; (with_reducible refine (cS _).mono ?_); rintro e w1 ⟨rfl, U1⟩; have B1 := bcell U1; have Z1 := U1.size; (try simp at Z1); (try rw [Nat.add_one_le_iff] at Z1)))
    go_ret2
    refine ⟨rfl, ?_⟩
    (repeat (first | with_reducible exact Up.refl _ | with_reducible assumption | with_reducible refine Up.set ?_ (by first | exact Nat.le_refl _ | (simp only []; omega) | (simp; omega)) _ | with_reducible refine Up.alloc ?_ _ | with_reducible refine Up.drew ?_ | refine Up.trans ?_ (by with_reducible assumption)))
  · rw [hf] at cS
    simp only [if_true] at cS ⊢
    obtain ⟨h1, h2, h3⟩ := fitsB_lits hf
    have hok : (learnK (startK s) dict.data.toList).Ok := learnK_ok (startK_ok h1) h3
    have cC := fun wx v hr => compI_any (learnK (startK s) dict.data.toList) v 0 d wx hok (fun _ => rfl) hr hd
    clear hf h1 h2 h3 hok
    generalize learnK (startK s) dict.data.toList = kk at *
    unfold optS at *
    generalize compO kk d.data.toList = co at *
    simp only [setV, kV] at *
    go_enter Tryz.func28, Tryz.ntmps28
    go_wp2_with (first | (go_at_call 64; (with_reducible refine (cS _).mono ?_); rintro e w1 ⟨v1, rfl, ho1, U1⟩; have B1 := bcell U1; have HR1 := Lib.hid ((RdP.of_own ho1).low (Nat.zero_le _)); obtain ⟨a1, c1, rfl⟩ := ownsRow_shape ho1; clear ho1) | (go_at_call 78; (with_reducible refine (cC _ _ (HR1.out.up (by (repeat (first | with_reducible exact Up.refl _ | with_reducible assumption | with_reducible refine Up.set ?_ (by first | exact Nat.le_refl _ | (simp only []; omega) | (simp; omega)) _ | with_reducible refine Up.alloc ?_ _ | with_reducible refine Up.drew ?_ | refine Up.trans ?_ (by with_reducible assumption)))))).mono ?_); rintro e w2 ⟨rfl, U2⟩; have B2 := bcell U2; have Z2 := U2.size; (try simp at Z2); (try rw [Nat.add_one_le_iff] at Z2)))
    go_ret2
    refine ⟨rfl, ?_⟩
    (repeat (first | with_reducible exact Up.refl _ | with_reducible assumption | with_reducible refine Up.set ?_ (by first | exact Nat.le_refl _ | (simp only []; omega) | (simp; omega)) _ | with_reducible refine Up.alloc ?_ _ | with_reducible refine Up.drew ?_ | refine Up.trans ?_ (by with_reducible assumption)))

theorem compL_len {k : KnD} {d : List UInt8} (h : k.Ok) (hl : ∀ b ∈ d, b.toNat < k.c) (hd : d.length ≤ 2000) : (compL k d).length ≤ 10000 := by
  obtain ⟨g1, g2, g3, g4, g5⟩ := walk_greedy h hl hd
  have g6 := greedy_tight h hl hd
  have g7 := packC_len10 k.set.ord (greedy k d) (walkN k (greedy k d) [] []).ws (fun x hx => ⟨by have := (g4 x hx).1; omega, (g4 x hx).2⟩)
  unfold compL
  rw [packL_length]; omega
theorem compW_len {s : SetD} {dict d c : List UInt8} (h : compW s dict d = some c) : c.length ≤ 10000 := by
  unfold compW at h
  split at h
  · next h1 =>
    obtain ⟨f1, f2, f3⟩ := fitsB_lits h1
    have hok : (learnK (startK s) dict).Ok := learnK_ok (startK_ok f1) f3
    unfold compO at h
    split at h
    · next h2 =>
      obtain ⟨e1, e2, e3⟩ := fitsB_lits h2
      cases h
      exact compL_len hok e3 e2
    · cases h
  · cases h
/-- The sealed stream. -/
def sealO (s : SetD) (dict d : ByteArray) : Value := match compW s dict.data.toList d.data.toList with
  | some c => .tuple #[.string (two (sumOf dict) ++ bs c), .bool true]
  | none => .tuple #[.string ByteArray.empty, .bool false]

set_option maxRecDepth 100000 in
set_option maxHeartbeats 4000000 in
theorem sealS_any (s : SetD) (dict d : ByteArray) (w : World) (hi : dict.size ≤ 1073741824) (hd : d.size ≤ 1073741824) :
    Calls Tryz.prog 50  #[setV s, .string dict, .string d] w (Same (sealO s dict d) w) := by
  have cC := fun wx => compWS_any s dict d wx hi hd
  have cM := fun wx => sumS_any dict wx (by omega)
  have hsb := sumOf_bd dict
  have cT := fun wx => l4Two_any (sumOf dict) wx (by omega) (by omega)
  unfold sealO
  have hcl := @compW_len s dict.data.toList d.data.toList
  generalize compW s dict.data.toList d.data.toList = co at *
  generalize sumOf dict = so at *
  unfold optS at cC
  cases co with
  | none =>
    clear hcl
    simp only [Option.getD_none, Option.isSome_none, setV] at *
    go_enter Tryz.func50, Tryz.ntmps50
    go_wp2_with ((go_at_call 29; (with_reducible refine (cC _).mono ?_); rintro e w1 ⟨rfl, U1⟩; have B1 := bcell U1; have Z1 := U1.size; (try simp at Z1); (try rw [Nat.add_one_le_iff] at Z1)))
    go_ret2
    refine ⟨rfl, ?_⟩
    (repeat (first | with_reducible exact Up.refl _ | with_reducible assumption | with_reducible refine Up.set ?_ (by first | exact Nat.le_refl _ | (simp only []; omega) | (simp; omega)) _ | with_reducible refine Up.alloc ?_ _ | with_reducible refine Up.drew ?_ | refine Up.trans ?_ (by with_reducible assumption)))
  | some c =>
    have hcl2 := hcl rfl
    have hsz := bs_size c
    have hsz2 := two_size so
    clear hcl
    simp only [Option.getD_some, Option.isSome_some, setV] at *
    go_enter Tryz.func50, Tryz.ntmps50
    go_wp2_with (first | (go_at_call 29; (with_reducible refine (cC _).mono ?_); rintro e w1 ⟨rfl, U1⟩; have B1 := bcell U1; have Z1 := U1.size; (try simp at Z1); (try rw [Nat.add_one_le_iff] at Z1)) | (go_at_call 101; (with_reducible refine (cM _).mono ?_); rintro e w' ⟨rfl, rfl⟩) | (go_at_call 100; (with_reducible refine (cT _).mono ?_); rintro e w2 ⟨rfl, U2⟩; have B2 := bcell U2; have Z2 := U2.size; (try simp at Z2); (try rw [Nat.add_one_le_iff] at Z2)))
    go_ret2
    refine ⟨rfl, ?_⟩
    (repeat (first | with_reducible exact Up.refl _ | with_reducible assumption | with_reducible refine Up.set ?_ (by first | exact Nat.le_refl _ | (simp only []; omega) | (simp; omega)) _ | with_reducible refine Up.alloc ?_ _ | with_reducible refine Up.drew ?_ | refine Up.trans ?_ (by with_reducible assumption)))

set_option maxRecDepth 100000 in
set_option maxHeartbeats 4000000 in
theorem sealI_any (s : SetD) (dict d : ByteArray) (w : World) (hl : -9223372036854775808 ≤ s.lit ∧ s.lit ≤ 9223372036854775807) (hi : dict.size ≤ 1073741824) (hd : d.size ≤ 1073741824) :
    Calls Tryz.prog 49  #[setV s, .string dict, .string d] w (Same (sealO s dict d) w) := by
  have cC := fun wx => compWI_any s dict d wx hl hi hd
  have cM := fun wx => sumI_any dict wx (by omega)
  have hsb := sumOf_bd dict
  have cT := fun wx => twoBytes_any (sumOf dict) wx (by omega) (by omega)
  unfold sealO
  have hcl := @compW_len s dict.data.toList d.data.toList
  generalize compW s dict.data.toList d.data.toList = co at *
  generalize sumOf dict = so at *
  unfold optS at cC
  cases co with
  | none =>
    clear hcl
    simp only [Option.getD_none, Option.isSome_none, setV] at *
    go_enter Tryz.func49, Tryz.ntmps49
    go_wp2_with ((go_at_call 28; (with_reducible refine (cC _).mono ?_); rintro e w1 ⟨rfl, U1⟩; have B1 := bcell U1; have Z1 := U1.size; (try simp at Z1); (try rw [Nat.add_one_le_iff] at Z1)))
    go_ret2
    refine ⟨rfl, ?_⟩
    (repeat (first | with_reducible exact Up.refl _ | with_reducible assumption | with_reducible refine Up.set ?_ (by first | exact Nat.le_refl _ | (simp only []; omega) | (simp; omega)) _ | with_reducible refine Up.alloc ?_ _ | with_reducible refine Up.drew ?_ | refine Up.trans ?_ (by with_reducible assumption)))
  | some c =>
    have hcl2 := hcl rfl
    have hsz := bs_size c
    have hsz2 := two_size so
    clear hcl
    simp only [Option.getD_some, Option.isSome_some, setV] at *
    go_enter Tryz.func49, Tryz.ntmps49
    go_wp2_with (first | (go_at_call 28; (with_reducible refine (cC _).mono ?_); rintro e w1 ⟨rfl, U1⟩; have B1 := bcell U1; have Z1 := U1.size; (try simp at Z1); (try rw [Nat.add_one_le_iff] at Z1)) | (go_at_call 43; (with_reducible refine (cM _).mono ?_); rintro e w' ⟨rfl, rfl⟩) | (go_at_call 112; (with_reducible refine (cT _).mono ?_); rintro e w2 ⟨rfl, U2⟩; have B2 := bcell U2; have Z2 := U2.size; (try simp at Z2); (try rw [Nat.add_one_le_iff] at Z2)))
    go_ret2
    refine ⟨rfl, ?_⟩
    (repeat (first | with_reducible exact Up.refl _ | with_reducible assumption | with_reducible refine Up.set ?_ (by first | exact Nat.le_refl _ | (simp only []; omega) | (simp; omega)) _ | with_reducible refine Up.alloc ?_ _ | with_reducible refine Up.drew ?_ | refine Up.trans ?_ (by with_reducible assumption)))

/-- The block of data that has been compressed, or not. -/
def mkB (o : Option (List UInt8)) (d : ByteArray) : BlkD := match o with
  | some c => if c.length < d.size then ⟨0, false, d.size, bs c⟩ else ⟨0, true, d.size, d⟩
  | none => ⟨0, true, d.size, d⟩

end Go.Proofs.YtekbbnkkninolaaGreat

/- Walks of the reference's draws of lists of dictionaries. Conditions: the bytes can be read; the reader is one (Rdr), its place is bounded. -/
namespace Go.Proofs.YtekbbnkkninolaaGreat
set_option linter.unusedVariables false
set_option linter.unusedSimpArgs false
open Go Go.RowKit

abbrev ownT (w : World) (base : Nat) (v : Value) (l : List ByteArray) : Prop := w.ownsRow base 9 1 v l.length (cellsS l)
theorem gOut_drawnW {P : Program} {rb : Nat} {B : Value} {c c' : Nat} {D : Value → World → Prop} {w : World} {f : FuncId} {args : Array Value} (h : Calls P f args w (fun e w' => ∃ v, e = .returned v ∧ D v w' ∧ RdUp rb B c' w w')) (hc : c' ≤ c) : gOut P (RdUp rb B c) D w (.ok (.enter f args) w) :=
  ⟨rfl, h.mono fun e w' ⟨v, h1, h2, h3⟩ => ⟨v, h1, h3.mono hc, h2⟩⟩
def rowLen : Value → Nat
  | .slice _ n _ => n
  | _ => 0
theorem own_emptyT {w' : World} {base g : Nat} (hg : g = w'.heap.size) (hb : base ≤ w'.heap.size) : ownT (w'.alloc (.cells #[] 9)) base (.slice (some ⟨g, 0, none⟩) 0 0) [] := by
  subst hg
  exact World.ownsRow_made _ _ _ hb (by unfold maxLen; omega) rfl
/-- A list of strings of the call's own. -/
def RdL (base : Nat) (v : Value) (w : World) : Prop := ∃ l : List ByteArray, ownT w base v l ∧ 1 ≤ l.length ∧ l.length ≤ 9 ∧ ∀ t ∈ l, t.size ≤ 1000
theorem RdL.gr {rb base : Nat} {v : Value} {w w' : World} (h : RdL base v w) (hb : rb < base) (hg : w.grownBy w' (some rb)) : RdL base v w' := by
  obtain ⟨l, h1, h2⟩ := h
  exact ⟨l, own_rd h1 hb hg, h2⟩
def RelLl (rb : Nat) (B : Value) (s : SetD) (c : Nat) (w : World) (out i : Value) (wr : World) : Prop := ∃ (l : List ByteArray) (k : Nat), i = .int .i64 k ∧ l.length + k ≤ 3 ∧ ownT wr (w.heap.size + 1) out l ∧ (∀ t ∈ l, t.size ≤ 1000) ∧ RdUp rb B (c + 3010 * l.length) w wr ∧ SetAt w.heap.size s.ord s.lit s.most wr
def RelLm (rb : Nat) (B : Value) (c : Nat) (w : World) (out : Value) (wr : World) : Prop := ∃ l : List ByteArray, 1 ≤ l.length ∧ l.length ≤ 9 ∧ ownT wr (w.heap.size + 1) out l ∧ (∀ t ∈ l, t.size ≤ 1000) ∧ RdUp rb B c w wr
theorem mem_snoc {l : List ByteArray} {t : ByteArray} {n : Nat} (h : ∀ x ∈ l, x.size ≤ n) (ht : t.size ≤ n) : ∀ x ∈ l ++ [t], x.size ≤ n := fun x hx => by
  rcases List.mem_append.1 hx with hx | hx
  · exact h x hx
  · simp at hx; subst hx; exact ht
theorem ownT_snoc {w : World} {base : Nat} {v : Value} {l : List ByteArray} {t : ByteArray} (h : w.ownsRow base 9 1 v (l.length + 1) (cellsS l ++ [.string t])) : ownT w base v (l ++ [t]) := by
  have e1 : (l ++ [t]).length = l.length + 1 := by simp
  have e2 : cellsS (l ++ [t]) = cellsS l ++ [.string t] := by simp [cellsS]
  unfold ownT
  rw [e1, e2]
  exact h

set_option maxRecDepth 100000 in
set_option maxHeartbeats 8000000 in
theorem l4List_any (rb : Nat) (B : Value) (s : SetD) (d : ByteArray) (base : Nat) (w : World) (N : Nat) (h : Rdr rb B w N) (hN : N ≤ 700000000) (hs : setOk s = true) (hd : d.size ≤ 1000) (hb : base ≤ w.heap.size) :
    Calls Tryz.prog 87  #[.pointer (some ⟨rb, 0, none⟩), setV s, .string d] w (fun e w' => ∃ v, e = .returned v ∧ RdL base v w' ∧ RdUp rb B 10000 w w') := by
  obtain ⟨i0, hib, hz0, hz1, hz2⟩ := info_parts infoStr
  obtain ⟨p, hp, h, HM⟩ := h.least
  have hlt := h.lt
  have HR := Lib.hid h
  have hne0 : ¬ w.heap.size = rb := by omega
  have hU := RdUp.refl rb B 0 w
  have e1 : w.heap.size < w.heap.size + 1 := by omega
  have cD := fun w N h hN => l1Data_as 12 12 rfl rb B s w N h hN (by omega) hs
  have hSB0 : SetAt w.heap.size s.ord s.lit s.most (w.alloc (.cells #[.int .i64 s.ord, .int .i64 s.lit, .int .i64 s.most] 26)) := (MapKept.heap_alloc w _).1
  simp only [setV] at *
  clear hs
  go_enter Tryz.func87, Tryz.ntmps87
  go_wp2_with (first | (go_at_call 89; ((with_reducible refine (pick_at (n := 4) HR.out hU (by intro c hU; (repeat (first | with_reducible assumption | refine RdUp.ups ?_ (by with_reducible assumption) | with_reducible refine RdUp.set ?_ (by first | exact Nat.le_refl _ | (simp only []; omega) | (simp; omega)) _ | with_reducible refine RdUp.alloc ?_ _ | with_reducible refine RdUp.drew ?_ | with_reducible exact RdUp.of (Up.refl _)))) (by omega)).mono ?_); rintro e w' ⟨x, rfl, x0, x1, hU, U⟩; have D := gcell U.1; have Z := U.1.size; (try simp at Z); (try have Y0 : w.heap.size < w'.heap.size := (by omega)); (try have Y1 : w.heap.size + 1 < w'.heap.size := (by omega)); (try have Y2 : w.heap.size + 1 + 1 < w'.heap.size := (by omega)); (try have X0 : w.heap.size < w'.heap.size + 1 := (by omega)); (try have X1 : w.heap.size + 1 < w'.heap.size + 1 := (by omega)); (try have X2 : w.heap.size + 1 + 1 < w'.heap.size + 1 := (by omega)); (skip))))
  obtain ⟨k, rfl⟩ := Int.eq_ofNat_of_zero_le x0
  have hSB := gbox U.1 (box_up ((Up.refl _).alloc _) hSB0) (by simp; omega)
  have ho : ownT w' (w.heap.size + 1) (.slice (some ⟨w.heap.size + 1, 0, none⟩) 0 0) [] := own_rd (own_emptyT (size_alloc _ _).symm (by simp)) (by omega) U.1
  have hU1 := hU
  clear D U Z hSB0
  go_loopw [7, 8] (fun out i wr => RelLl rb B s 1 w out i wr) (fun _ i _ => (intOf i).toNat)
  case atStart => exact ⟨[], k, rfl, by simp; omega, ho, by simp, hU1.mono (by omega), hSB⟩
  case round =>
    obtain ⟨l, k, rfl, hlk, ho, hls, hU, hSB⟩ := hrel
    obtain ⟨a, c, rfl⟩ := ownsRow_shape ho
    have HO := Lib.hid ho
    have HS := Lib.hid hSB
    obtain ⟨hbs, s0, s1, s2⟩ := SetAt.cells hSB
    clear ho hSB
    by_cases hk : 0 < k
    · have hU1 := hU
      have hwz := hU.1.size
      go_wp2_with (first | (go_at_call 86; ((with_reducible refine (draw_atM (cD) HR.out hU (by intro c hU; (repeat (first | with_reducible assumption | refine RdUp.ups ?_ (by with_reducible assumption) | with_reducible refine RdUp.set ?_ (by first | exact Nat.le_refl _ | (simp only []; omega) | (simp; omega)) _ | with_reducible refine RdUp.alloc ?_ _ | with_reducible refine RdUp.drew ?_ | with_reducible exact RdUp.of (Up.refl _)))) (by omega)).mono ?_); rintro e w' ⟨v, rfl, ⟨st, rfl, hst⟩, hU, U⟩; have D := gcell U.1; have Z := U.1.size; (try simp at Z); (try have Y0 : w.heap.size < w'.heap.size := (by omega)); (try have Y1 : w.heap.size + 1 < w'.heap.size := (by omega)); (try have Y2 : w.heap.size + 1 + 1 < w'.heap.size := (by omega)); (try have X0 : w.heap.size < w'.heap.size + 1 := (by omega)); (try have X1 : w.heap.size + 1 < w'.heap.size + 1 := (by omega)); (try have X2 : w.heap.size + 1 + 1 < w'.heap.size + 1 := (by omega)))) | (at_builtin; refine wpList_append_own _ rfl _ _ 46 rfl (w.heap.size + 1) 9 i0 (.string ByteArray.empty) 1 16 Tryz.underlying46 hib hz0 hz1 hz2 rfl (by decide) _ _ _ rfl ((own_rd HO.out (by omega : rb < w.heap.size + 1) U.1).alloc _) ⟨(w').heap.size, 0, none⟩ 1 1 [.string st] rfl rfl (new_cells [.string st] _ rfl) (by intro u hu; simp at hu; subst hu; rfl) (by unfold maxLen; omega) (by omega) (by simp; omega) ?_; rintro v2 w2 hown2 hgr2 -))
      go_roundw
      case rel =>
        refine ⟨l ++ [st], k - 1, by go_num, by simp; omega, ownT_snoc hown2, mem_snoc hls (by omega), ?_, ?_⟩
        · refine RdUp.mono ((hU.alloc _).gr hgr2 (fun q hq => by have := row_ge HO.out q hq; omega)) (by simp; omega)
        · exact gbox hgr2 (box_up ((Up.refl _).alloc _) (gbox U.1 HS.out (by simp; omega))) (fun e => by have := row_ge HO.out _ e.symm; omega)
      case measure => simp [intOf]; omega
    · have hU1 := hU
      have hwz := hU.1.size
      have hl3 : l.length ≤ 3 := by omega
      go_wp2_with (first | (at_builtin; refine wpList_append_own _ rfl _ _ 46 rfl (w.heap.size + 1) 9 i0 (.string ByteArray.empty) 1 16 Tryz.underlying46 hib hz0 hz1 hz2 rfl (by decide) _ _ _ rfl ((HO.out).alloc _) ⟨(wr).heap.size, 0, none⟩ 1 1 [.string d] rfl rfl (new_cells [.string d] _ rfl) (by intro u hu; simp at hu; subst hu; rfl) (by unfold maxLen; omega) (by omega) (by simp; omega) ?_; rintro v2 w2 hown2 hgr2 -))
      have hU2 : RdUp rb B 9031 w w2 := RdUp.mono ((hU.alloc _).gr hgr2 (fun q hq => by have := row_ge HO.out q hq; omega)) (by omega)
      have ho2 := ownT_snoc hown2
      have hl4 := mem_snoc hls hd
      have hlen : (l ++ [d]).length = l.length + 1 := by simp
      clear hU hU1 hown2 hgr2 HO HS hbs s0 s1 s2 hls
      generalize l ++ [d] = l2 at *
      have hl2a : 1 ≤ l2.length := by omega
      have hl2b : l2.length ≤ 4 := by omega
      clear hlen
      obtain ⟨a2, c2, rfl⟩ := ownsRow_shape ho2
      have HO2 := Lib.hid ho2
      clear ho2
      have hU := hU2
      have hwz2 := hU2.1.size
      go_wp2_with ((go_at_call 89; ((with_reducible refine (pick_at (n := 24) HR.out hU (by intro c hU; (repeat (first | with_reducible assumption | refine RdUp.ups ?_ (by with_reducible assumption) | with_reducible refine RdUp.set ?_ (by first | exact Nat.le_refl _ | (simp only []; omega) | (simp; omega)) _ | with_reducible refine RdUp.alloc ?_ _ | with_reducible refine RdUp.drew ?_ | with_reducible exact RdUp.of (Up.refl _)))) (by omega)).mono ?_); rintro e w' ⟨y, rfl, y0, y1, hU, U⟩; have D := gcell U.1; have Z := U.1.size; (try simp at Z); (try have Y0 : w.heap.size < w'.heap.size := (by omega)); (try have Y1 : w.heap.size + 1 < w'.heap.size := (by omega)); (try have Y2 : w.heap.size + 1 + 1 < w'.heap.size := (by omega)); (try have X0 : w.heap.size < w'.heap.size + 1 := (by omega)); (try have X1 : w.heap.size + 1 < w'.heap.size + 1 := (by omega)); (try have X2 : w.heap.size + 1 + 1 < w'.heap.size + 1 := (by omega)); (skip))))
      · have hU3 := hU
        have hy0 : y = 0 := by simpa using (by assumption : (y == 0) = true)
        subst hy0
        clear D
        go_loopw [7] (fun out wr => RelLm rb B 9500 w out wr) (fun o _ => 9 - rowLen o)
        case atStart => exact ⟨l2, by omega, by omega, own_rd HO2.out (by omega) U.1, hl4, hU3.mono (by omega)⟩
        case round =>
          obtain ⟨l5, h51, h52, ho5, hl5, hU5⟩ := hrel
          obtain ⟨a5, c5, rfl⟩ := ownsRow_shape ho5
          have HO5 := Lib.hid ho5
          have hwz5 := hU5.1.size
          clear ho5
          by_cases hl9 : l5.length < 9
          · go_wp2_with (first | (at_builtin; refine wpList_append_own _ rfl _ _ 46 rfl (w.heap.size + 1) 9 i0 (.string ByteArray.empty) 1 16 Tryz.underlying46 hib hz0 hz1 hz2 rfl (by decide) _ _ _ rfl ((HO5.out).alloc _) ⟨(wr).heap.size, 0, none⟩ 1 1 [.string d] rfl rfl (new_cells [.string d] _ rfl) (by intro u hu; simp at hu; subst hu; rfl) (by unfold maxLen; omega) (by omega) (by simp; omega) ?_; rintro v2 w2 hown2 hgr2 -) | (at_builtin; refine wpList_append_own _ rfl _ _ 46 rfl (w.heap.size + 1) 9 i0 (.string ByteArray.empty) 1 16 Tryz.underlying46 hib hz0 hz1 hz2 rfl (by decide) _ _ _ rfl ((HO5.out).alloc _) ⟨(_).heap.size, 0, none⟩ 1 1 [.string d] rfl rfl (new_cells [.string d] _ rfl) (by intro u hu; simp at hu; subst hu; rfl) (by unfold maxLen; omega) (by omega) (by simp; omega) ?_; rintro v2 w2 hown2 hgr2 -))
            have e7 := (ownsRow_shape hown2)
            obtain ⟨a7, c7, rfl⟩ := e7
            go_roundw
            case rel =>
              exact ⟨l5 ++ [d], by simp, by simp; omega, ownT_snoc hown2, mem_snoc hl5 hd, (hU5.alloc _).gr hgr2 (fun q hq => by have := row_ge HO5.out q hq; omega)⟩
            case measure => simp [rowLen]; omega
          · go_wp2
            go_ret
            exact ⟨_, rfl, ⟨l5, ownsRow_base HO5.out (by omega), h51, h52, hl5⟩, hU5.mono (by omega)⟩
      · go_wp2
        go_ret
        exact ⟨_, rfl, ⟨l2, ownsRow_base (own_rd HO2.out (by omega) U.1) (by omega), by omega, by omega, hl4⟩, by exact RdUp.fin hU (by intro c hU; (repeat (first | with_reducible assumption | refine RdUp.ups ?_ (by with_reducible assumption) | with_reducible refine RdUp.set ?_ (by first | exact Nat.le_refl _ | (simp only []; omega) | (simp; omega)) _ | with_reducible refine RdUp.alloc ?_ _ | with_reducible refine RdUp.drew ?_ | with_reducible exact RdUp.of (Up.refl _)))) (by omega)⟩

/-- What the draws of dictionaries hand over. -/
def BdDrawn (w : World) (e : Ending) (w' : World) : Prop := ∃ (s : SetD) (u : Value) (l : List ByteArray) (d : ByteArray), e = .returned (.tuple #[setV s, u, .string d]) ∧ litB s ∧ ownT w' (w.heap.size + 1) u l ∧ l.length ≤ 9 ∧ (∀ t ∈ l, t.size ≤ 1000) ∧ d.size ≤ 20010 ∧ Up w w'

set_option maxRecDepth 100000 in
set_option maxHeartbeats 8000000 in
theorem drawBestDict_any (v : Value) (l : List UInt8) (w : World) (h : ArgU w v l) :
    Calls Tryz.prog 33  #[v] w (BdDrawn w) := by
  have cO := fun w' hu => open_at (h.up (w' := w') hu)
  clear h
  go_enter Tryz.func33, Tryz.ntmps33
  go_wp2_with (go_at_call 77; (with_reducible refine (cO _ (by (repeat (first | with_reducible exact Up.refl _ | with_reducible assumption | with_reducible refine Up.set ?_ (by first | exact Nat.le_refl _ | (simp only []; omega) | (simp; omega)) _ | with_reducible refine Up.alloc ?_ _ | with_reducible refine Up.drew ?_ | refine Up.trans ?_ (by with_reducible assumption))))).mono ?_); rintro e w1 ⟨B, rfl, hr, U1⟩)
  have hRB : SetAt w.heap.size 0 0 0 w1 := box_up U1 (MapKept.heap_alloc w _).1
  have hUp : Up w w1 := by (repeat (first | with_reducible exact Up.refl _ | with_reducible assumption | with_reducible refine Up.set ?_ (by first | exact Nat.le_refl _ | (simp only []; omega) | (simp; omega)) _ | with_reducible refine Up.alloc ?_ _ | with_reducible refine Up.drew ?_ | refine Up.trans ?_ (by with_reducible assumption)))
  rw [size_alloc] at hr
  have hrw : w.heap.size < w.heap.size + 1 := by omega
  generalize w.heap.size + 1 = rb at *
  obtain ⟨p, hp, hr, HM⟩ := hr.least
  have hlt := hr.lt
  have HR := Lib.hid hr
  have hU := RdUp.refl rb B 0 w1
  have hne0 : ¬ w.heap.size = rb := by omega
  clear cO U1
  have cS := fun w N h hN => l1Some_any rb B w N h hN
  go_wp2_with ((go_at_call 85; ((with_reducible refine (draw_at (cS) HR.out hU (by intro c hU; (repeat (first | with_reducible assumption | refine RdUp.ups ?_ (by with_reducible assumption) | with_reducible refine RdUp.set ?_ (by first | exact Nat.le_refl _ | (simp only []; omega) | (simp; omega)) _ | with_reducible refine RdUp.alloc ?_ _ | with_reducible refine RdUp.drew ?_ | with_reducible exact RdUp.of (Up.refl _)))) (by omega)).mono ?_); rintro e w' ⟨v, rfl, ⟨s, rfl, hs⟩, hU, U⟩; have D := gcell U.1; have Z := U.1.size; (try simp at Z); (try have Y0 : w.heap.size < w'.heap.size := (by omega)); (try have Y1 : w.heap.size + 1 < w'.heap.size := (by omega)); (try have Y2 : w.heap.size + 1 + 1 < w'.heap.size := (by omega)); (try have X0 : w.heap.size < w'.heap.size + 1 := (by omega)); (try have X1 : w.heap.size + 1 < w'.heap.size + 1 := (by omega)); (try have X2 : w.heap.size + 1 + 1 < w'.heap.size + 1 := (by omega)))))
  have hSB : SetAt w'.heap.size s.ord s.lit s.most (w'.alloc (.cells #[.int .i64 s.ord, .int .i64 s.lit, .int .i64 s.most] 26)) := (MapKept.heap_alloc w' _).1
  have hRB : SetAt w.heap.size 0 0 0 (w'.alloc (.cells #[.int .i64 s.ord, .int .i64 s.lit, .int .i64 s.most] 26)) := box_up ((Up.refl _).alloc _) (gbox U.1 hRB (by simp; omega))
  have hU : RdUp rb B 5 w1 (w'.alloc (.cells #[.int .i64 s.ord, .int .i64 s.lit, .int .i64 s.most] 26)) := by exact RdUp.fin hU (by intro c hU; (repeat (first | with_reducible assumption | refine RdUp.ups ?_ (by with_reducible assumption) | with_reducible refine RdUp.set ?_ (by first | exact Nat.le_refl _ | (simp only []; omega) | (simp; omega)) _ | with_reducible refine RdUp.alloc ?_ _ | with_reducible refine RdUp.drew ?_ | with_reducible exact RdUp.of (Up.refl _)))) (by omega)
  have hbr : ¬ w'.heap.size = rb := by omega
  generalize (w'.alloc (.cells #[.int .i64 s.ord, .int .i64 s.lit, .int .i64 s.most] 26)) = W at *
  generalize w'.heap.size = b5 at *
  obtain ⟨hbs, s0, s1, s2⟩ := SetAt.cells hSB
  obtain ⟨hb0, q0, q1, q2⟩ := SetAt.cells hRB
  have hfr := box_free hRB
  clear D U Z
  have cD := fun w N h hN => l1Data_as 28 28 rfl rb B s w N h hN (by omega) hs
  have cB := fun w N h hN => l1BadB_any rb B s w N h hN hs
  have HS := Lib.hid hs
  clear hs
  simp only [setV] at *
  go_wp2_with (first | ((go_at_call 86; ((with_reducible refine (draw_atM (cD) HR.out hU (by intro c hU; (repeat (first | with_reducible assumption | refine RdUp.ups ?_ (by with_reducible assumption) | with_reducible refine RdUp.set ?_ (by first | exact Nat.le_refl _ | (simp only []; omega) | (simp; omega)) _ | with_reducible refine RdUp.alloc ?_ _ | with_reducible refine RdUp.drew ?_ | with_reducible exact RdUp.of (Up.refl _)))) (by omega)).mono ?_); rintro e w' ⟨v, rfl, ⟨d, rfl, hd⟩, hU, U⟩; have D := gcell U.1; have Z := U.1.size; (try simp at Z); (try have Y0 : w.heap.size < w'.heap.size := (by omega)); (try have Y1 : w.heap.size + 1 < w'.heap.size := (by omega)); (try have Y2 : w.heap.size + 1 + 1 < w'.heap.size := (by omega)); (try have X0 : w.heap.size < w'.heap.size + 1 := (by omega)); (try have X1 : w.heap.size + 1 < w'.heap.size + 1 := (by omega)); (try have X2 : w.heap.size + 1 + 1 < w'.heap.size + 1 := (by omega)))); have hSB := gbox U.1 hSB (by simp; omega); have hRB := gbox U.1 hRB (by simp; omega); clear s0 s1 s2 hbs q0 q1 q2 hb0 hfr; obtain ⟨hbs, s0, s1, s2⟩ := SetAt.cells hSB; obtain ⟨hb0, q0, q1, q2⟩ := SetAt.cells hRB; have hfr := box_free hRB; clear D U))
  have hr2 := hU.2 _ hr
  have hsz9 := hU.1.size
  have hrbW : rb < w'.heap.size := by omega
  have cW := fun w N h hN => l1Wild_any rb B d w N h hN (by omega)
  refine wp_region_rd 7 rb B 10000 _ (by kernel_rfl) (by kernel_rfl) hr2 ?_
  simp only [List.take, List.drop]
  repeat (refine wpR_step (fun K hK => ?_); go_simp; (try simp only [↓IntWalk.iteOmega]); first
    | (refine hK _ _ ?_; clear hK K)
    | (refine stepR_c ?_ ?_ ?_
       rotate_left
       · intro wq hwq hrq; (have hbq := gcell hwq; (repeat (first | refine fills_no (by rfl) ?_ | (refine fills_yes (by rfl) (fun vq hvq => ?_); (try ((obtain ⟨sb, rfl, hsb⟩ := hvq)))))); simp only [List.filter_nil, fills]; unfold upAt; (try (skip)); go_simp; (try go_bits); (try simp only [↓IntWalk.iteOmega]); (try (rw [dif_pos (by omega)]; go_simp; try go_bits)); first | exact upOut_value)
       go_simp; refine hK _ _ ?_; clear hK K)
    | (refine stepR_d (by rfl) (by kernel_rfl) (fun v _ => IsStr 1000 v) (fun _ _ _ h _ => h) (fun wq hwq hrq => ?_) ?_
       · (have hbq := gcell hwq; (repeat (first | refine fills_no (by rfl) ?_ | (refine fills_yes (by rfl) (fun vq hvq => ?_); (try ((obtain ⟨sb, rfl, hsb⟩ := hvq)))))); simp only [List.filter_nil, fills]; unfold gAt; (try (skip)); go_simp; (try go_bits); (try simp only [↓IntWalk.iteOmega]); (try (rw [dif_pos (by omega)]; go_simp; try go_bits)); (with_reducible refine gOut_drawn ((l4Dict_any rb B s d wq _ hrq (by omega) (by omega) HS.out)) ?_); decide)
       refine hK _ _ ?_; clear hK K)
    | (refine stepR_d (by rfl) (by kernel_rfl) ((fun v w => RdL w'.heap.size v w)) ((fun v wa wb h hg => RdL.gr h hrbW hg)) (fun wq hwq hrq => ?_) ?_
       · (have hbq := gcell hwq; (repeat (first | refine fills_no (by rfl) ?_ | (refine fills_yes (by rfl) (fun vq hvq => ?_); (try ((obtain ⟨sb, rfl, hsb⟩ := hvq)))))); simp only [List.filter_nil, fills]; unfold gAt; (try (skip)); go_simp; (try go_bits); (try simp only [↓IntWalk.iteOmega]); (try (rw [dif_pos (by omega)]; go_simp; try go_bits)); (with_reducible refine gOut_drawnW ((l4List_any rb B s _ w'.heap.size wq _ hrq (by omega) HS.out hsb hwq.size)) ?_); decide)
       refine hK _ _ ?_; clear hK K))
  refine wpR_nil (fun wq hwq hrq => ?_)
  simp only [fills]
  rintro v9 ⟨L, hO, hL1, hL9, hLs⟩
  intros
  have hU := RdUp.made (C := 100000) HM (grownBy_trans hU.1 hwq) hrq (by omega)
  have hSB := gbox hwq hSB (by simp; omega)
  have hRB := gbox hwq hRB (by simp; omega)
  obtain ⟨a3, ca3, rfl⟩ := ownsRow_shape hO
  have hcap : L.length ≤ ca3 ∧ ca3 ≤ maxLen := by
    rcases hO.2 with ⟨e1, e2⟩ | ⟨g, c, cur, e1, -, -, e2, e3, -⟩
    · omega
    · simp only [Value.slice.injEq] at e1
      obtain ⟨-, -, rfl⟩ := e1
      exact ⟨e2, e3⟩
  unfold maxLen at hcap
  obtain ⟨hcap1, hcap2⟩ := hcap
  have HO := Lib.hid (ownsRow_base hO (show rb + 1 ≤ w'.heap.size by omega))
  clear s0 s1 s2 hbs q0 q1 q2 hb0 hfr hO
  obtain ⟨hbs, s0, s1, s2⟩ := SetAt.cells hSB
  obtain ⟨hb0, q0, q1, q2⟩ := SetAt.cells hRB
  have hfr := box_free hRB
  have hG : Hid (wq.grownBy wq (some rb)) := grownBy_refl _ _
  clear hwq hrq
  go_wp2
  rw [onlyN_normal]
  go_wp2_with (first | ((go_at_call 89; ((with_reducible refine (pick_at (n := 24) HR.out hU (by intro c hU; (repeat (first | with_reducible assumption | refine RdUp.ups ?_ (by with_reducible assumption) | with_reducible refine RdUp.set ?_ (by first | exact Nat.le_refl _ | (simp only []; omega) | (simp; omega)) _ | with_reducible refine RdUp.alloc ?_ _ | with_reducible refine RdUp.drew ?_ | with_reducible exact RdUp.of (Up.refl _)))) (by omega)).mono ?_); rintro e w' ⟨x, rfl, x0, x1, hU, U⟩; have D := gcell U.1; have Z := U.1.size; (try simp at Z); (try have Y0 : w.heap.size < w'.heap.size := (by omega)); (try have Y1 : w.heap.size + 1 < w'.heap.size := (by omega)); (try have Y2 : w.heap.size + 1 + 1 < w'.heap.size := (by omega)); (try have X0 : w.heap.size < w'.heap.size + 1 := (by omega)); (try have X1 : w.heap.size + 1 < w'.heap.size + 1 := (by omega)); (try have X2 : w.heap.size + 1 + 1 < w'.heap.size + 1 := (by omega)); (skip))); have hG := Lib.hid (grownBy_trans hG.out U.1); have hSB := gbox U.1 hSB (by simp; omega); have hRB := gbox U.1 hRB (by simp; omega); clear s0 s1 s2 hbs q0 q1 q2 hb0 hfr; obtain ⟨hbs, s0, s1, s2⟩ := SetAt.cells hSB; obtain ⟨hb0, q0, q1, q2⟩ := SetAt.cells hRB; have hfr := box_free hRB; clear D U) | ((go_at_call 90; ((with_reducible refine (draw_atM (cW) HR.out hU (by intro c hU; (repeat (first | with_reducible assumption | refine RdUp.ups ?_ (by with_reducible assumption) | with_reducible refine RdUp.set ?_ (by first | exact Nat.le_refl _ | (simp only []; omega) | (simp; omega)) _ | with_reducible refine RdUp.alloc ?_ _ | with_reducible refine RdUp.drew ?_ | with_reducible exact RdUp.of (Up.refl _)))) (by omega)).mono ?_); rintro e w' ⟨v, rfl, ⟨dw, rfl, hdw⟩, hU, U⟩; have D := gcell U.1; have Z := U.1.size; (try simp at Z); (try have Y0 : w.heap.size < w'.heap.size := (by omega)); (try have Y1 : w.heap.size + 1 < w'.heap.size := (by omega)); (try have Y2 : w.heap.size + 1 + 1 < w'.heap.size := (by omega)); (try have X0 : w.heap.size < w'.heap.size + 1 := (by omega)); (try have X1 : w.heap.size + 1 < w'.heap.size + 1 := (by omega)); (try have X2 : w.heap.size + 1 + 1 < w'.heap.size + 1 := (by omega)))); have hG := Lib.hid (grownBy_trans hG.out U.1); have hSB := gbox U.1 hSB (by simp; omega); have hRB := gbox U.1 hRB (by simp; omega); clear s0 s1 s2 hbs q0 q1 q2 hb0 hfr; obtain ⟨hbs, s0, s1, s2⟩ := SetAt.cells hSB; obtain ⟨hb0, q0, q1, q2⟩ := SetAt.cells hRB; have hfr := box_free hRB; clear D U) | ((go_at_call 91; ((with_reducible refine (draw_atM (cB) HR.out hU (by intro c hU; (repeat (first | with_reducible assumption | refine RdUp.ups ?_ (by with_reducible assumption) | with_reducible refine RdUp.set ?_ (by first | exact Nat.le_refl _ | (simp only []; omega) | (simp; omega)) _ | with_reducible refine RdUp.alloc ?_ _ | with_reducible refine RdUp.drew ?_ | with_reducible exact RdUp.of (Up.refl _)))) (by omega)).mono ?_); rintro e w' ⟨v, rfl, ⟨s9, rfl, hs9⟩, hU, U⟩; have D := gcell U.1; have Z := U.1.size; (try simp at Z); (try have Y0 : w.heap.size < w'.heap.size := (by omega)); (try have Y1 : w.heap.size + 1 < w'.heap.size := (by omega)); (try have Y2 : w.heap.size + 1 + 1 < w'.heap.size := (by omega)); (try have X0 : w.heap.size < w'.heap.size + 1 := (by omega)); (try have X1 : w.heap.size + 1 < w'.heap.size + 1 := (by omega)); (try have X2 : w.heap.size + 1 + 1 < w'.heap.size + 1 := (by omega)))); have hG := Lib.hid (grownBy_trans hG.out U.1); have hSB := gbox U.1 hSB (by simp; omega); have hRB := gbox U.1 hRB (by simp; omega); clear s0 s1 s2 hbs q0 q1 q2 hb0 hfr; obtain ⟨hbs, s0, s1, s2⟩ := SetAt.cells hSB; obtain ⟨hb0, q0, q1, q2⟩ := SetAt.cells hRB; have hfr := box_free hRB; clear D U))
  all_goals first
    | (have hUw := up_grownR hUp hU.1 (by omega)
       have hO := own_rd HO.out (Nat.lt_succ_self rb) hG.out
       refine bodyPost_ret (v := _) (by simp [results, Tryz.results33, go_sem, q0, q1, q2, hb0, hne0]; rfl) rfl ?_
       refine ⟨s9, _, L, _, rfl, hs9, ?_, hL9, hLs, by omega, ?_⟩
       · refine ownsRow_base (base := rb + 1) ?_ (by omega)
         repeat (with_reducible refine ownsRow_setne ?_ (by omega) _ _)
         exact hO
       · (repeat (first | with_reducible exact Up.refl _ | with_reducible assumption | with_reducible refine Up.set ?_ (by first | exact Nat.le_refl _ | (simp only []; omega) | (simp; omega)) _ | with_reducible refine Up.alloc ?_ _ | with_reducible refine Up.drew ?_ | refine Up.trans ?_ (by with_reducible assumption))))
    | skip
  go_region
  go_wp2
  have hUw := up_grownR hUp hU.1 (by omega)
  have hO := ownsRow_take (own_rd HO.out (Nat.lt_succ_self rb) hG.out) (Nat.zero_le L.length)
  rw [Nat.zero_mul, List.take_zero] at hO
  refine bodyPost_ret (v := _) (by simp [results, Tryz.results33, go_sem, q0, q1, q2, hb0, hne0]; rfl) rfl ?_
  refine ⟨s, _, [], d, rfl, by have := (setOk_bd HS.out).2.1; omega, ?_, by simp, by simp, by omega, ?_⟩
  · refine ownsRow_base (base := rb + 1) ?_ (by omega)
    repeat (first | (with_reducible refine ownsRow_setne ?_ (by omega) _ _) | (with_reducible refine ownsRow_up ?_ (Up.drew (Up.refl _))))
    exact hO
  · (repeat (first | with_reducible exact Up.refl _ | with_reducible assumption | with_reducible refine Up.set ?_ (by first | exact Nat.le_refl _ | (simp only []; omega) | (simp; omega)) _ | with_reducible refine Up.alloc ?_ _ | with_reducible refine Up.drew ?_ | refine Up.trans ?_ (by with_reducible assumption)))

end Go.Proofs.YtekbbnkkninolaaGreat

/- Walks of the reference's Decompress, DecompressWith, l5Data, BlockData. Conditions: what is known is valid and can be read; strings are no longer than 2^30 bytes. -/
namespace Go.Proofs.YtekbbnkkninolaaGreat
set_option linter.unusedVariables false
set_option linter.unusedSimpArgs false
open Go Go.RowKit

theorem RdI.low {lo lo' : Nat} {w : World} {v : Value} {l : List Int} (h : RdI lo w v l) (hl : lo' ≤ lo) : RdI lo' w v l := by
  obtain ⟨a, cap, h1, h2, h3, h4⟩ := h
  exact ⟨a, cap, h1, h2, h3, fun hp => by
    obtain ⟨b, off, e1, e2, e3⟩ := h4 hp
    exact ⟨b, off, e1, Nat.le_trans hl e2, e3⟩⟩
end Go.Proofs.YtekbbnkkninolaaGreat

/- Walks of the program's unpack, Decompress, DecompressWith, blockData, BlockData. Conditions: what is known is valid and can be read; strings are no longer than 2^30 bytes. -/
namespace Go.Proofs.YtekbbnkkninolaaGreat
set_option linter.unusedVariables false
set_option linter.unusedSimpArgs false
open Go Go.RowKit

/-- What unpack reads, and how many bytes it uses. -/
def upkR (k : KnD) (s : List UInt8) : RdR := if s.length ≤ 4000 then readS k s else ⟨⟨⟨0, 0, 0⟩, [], 0, 0⟩, [], [], 4, 0⟩
def upkU (k : KnD) (s : List UInt8) : Nat := if s.length ≤ 4000 then usedS s (readS k s) else 0
def UpkPost (R : RdR) (used : Nat) (w : World) (e : Ending) (w' : World) : Prop := ∃ a n c vc vd, e = .returned (.tuple #[rgV R.k (.slice a n c) vc vd R.fin R.pos, .int .i64 used]) ∧ ownI w' w.heap.size vc R.codes ∧ ownU w' w.heap.size vd R.data ∧ Up w w'
/-- A reading with rows of its own. -/
def RdO (base : Nat) (R : RdR) (u : Value) (w : World) : Prop := ∃ v vc vd, u = rgV R.k v vc vd R.fin R.pos ∧ ownPr w base v R.k.ps ∧ ownI w base vc R.codes ∧ ownU w base vd R.data
theorem rdO_closed (base : Nat) (R : RdR) : ∀ u, UpClosed (RdO base R u) := fun u w w' ⟨v, vc, vd, h1, h0, h2, h3⟩ hu => ⟨v, vc, vd, h1, ownsRow_up h0 hu, ownsRow_up h2 hu, ownsRow_up h3 hu⟩
theorem upOut_rd {f : FuncId} {args : Array Value} {w : World} {R : RdR} {base : Nat} (h : Calls Tryz.prog f args w (RcPost R w)) (hb : base ≤ w.heap.size) : upOut Tryz.prog (RdO base R) w (.ok (.enter f args) w) :=
  ⟨rfl, h.mono fun e w' ⟨v, vc, vd, he, hp, ho, hd, hu⟩ => ⟨_, he, hu, v, vc, vd, rfl, ownsRow_base hp hb, ownsRow_base ho hb, ownsRow_base hd hb⟩⟩
/-- A new box for a reading. -/
def RgO (base : Nat) (u : Value) (w : World) : Prop := ∃ b, u = .pointer (some ⟨b, 0, none⟩) ∧ base ≤ b ∧ RgAt b ⟨⟨0, 0, 0⟩, [], 0, 0⟩ (.slice none 0 0) (.slice none 0 0) (.slice none 0 0) 0 0 w
theorem rgO_closed (base : Nat) : ∀ u, UpClosed (RgO base u) := fun u w w' ⟨b, h1, h2, h3⟩ hu => ⟨b, h1, h2, box_up hu h3⟩

set_option maxRecDepth 100000 in
set_option maxHeartbeats 8000000 in
theorem upkI_any (k : KnD) (v : Value) (lo : Nat) (s : ByteArray) (w : World) (h : k.Ok) (hv : k.last = -1 → k.base = k.ps.length) (hr : RdP lo w v k.ps) (hs : s.size ≤ 1073741824) :
    Calls Tryz.prog 134  #[kV k v, .string s] w (UpkPost (upkR k s.data.toList) (upkU k s.data.toList) w) := by
  have cV := fun wx hr => kvI_any k v lo wx h hv hr
  have hrt := fun (wq : World) (hu : Up w wq) => hr.up hu
  have hlen := ba_len s
  unfold upkR upkU
  by_cases h4 : s.size ≤ 4000
  case neg =>
    rw [if_neg (by omega), if_neg (by omega)]
    obtain ⟨a, cap, rfl, -, -, -, -⟩ := hr
    have h4' : (4000 : Int) < (s.size : Int) := by omega
    have h4d : decide ((4000 : Int) < (s.size : Int)) = true := decide_eq_true h4'
    clear h hv hlen
    simp only [kV] at *
    go_enter Tryz.func134, Tryz.ntmps134
    go_wp2_with fail
    (with_reducible refine (cV _ (hrt _ (by (repeat (first | with_reducible exact Up.refl _ | with_reducible assumption | with_reducible refine Up.set ?_ (by first | exact Nat.le_refl _ | (simp only []; omega) | (simp; omega)) _ | with_reducible refine Up.alloc ?_ _ | with_reducible refine Up.drew ?_ | refine Up.trans ?_ (by with_reducible assumption)))))).mono ?_); rintro e w1 ⟨rfl, U1⟩
    have hQ1 : RgAt (w.heap.size + 1) ⟨⟨0, 0, 0⟩, [], 0, 0⟩ (.slice none 0 0) (.slice none 0 0) (.slice none 0 0) 0 0 w1 := box_up U1 (alloc2 w _ _)
    have hU1 : Up w w1 := by (repeat (first | with_reducible exact Up.refl _ | with_reducible assumption | with_reducible refine Up.set ?_ (by first | exact Nat.le_refl _ | (simp only []; omega) | (simp; omega)) _ | with_reducible refine Up.alloc ?_ _ | with_reducible refine Up.drew ?_ | refine Up.trans ?_ (by with_reducible assumption)))
    have HQ := Lib.hid hQ1
    have HU := Lib.hid (RgW.up hU1 (show w.heap.size ≤ w.heap.size + 1 by omega) ⟨⟨0, 0, 0⟩, [], 0, 0⟩ (.slice none 0 0) (.slice none 0 0) (.slice none 0 0) 4 0)
    have HS := Lib.hid (RgAt.store hQ1 ⟨⟨0, 0, 0⟩, [], 0, 0⟩ (.slice none 0 0) (.slice none 0 0) (.slice none 0 0) 4 0)
    obtain ⟨hbq, q0, q1, q2, q3, q4, q5, q6, q7, q8, q9⟩ := RgAt.cells (k := ⟨⟨0, 0, 0⟩, [], 0, 0⟩) hQ1
    (try dsimp only at q0 q1 q2 q3 q4 q5)
    have hfq := box_free hQ1
    clear hQ1 hU1 U1
    go_wp2
    rw [show (World.setCell (World.setCell (World.setCell (World.setCell (World.setCell (World.setCell (World.setCell (World.setCell (World.setCell (World.setCell w1 ⟨w.heap.size + 1, 0, none⟩ (.int .i64 0)) ⟨w.heap.size + 1, 1, none⟩ (.int .i64 0)) ⟨w.heap.size + 1, 2, none⟩ (.int .i64 0)) ⟨w.heap.size + 1, 3, none⟩ (.slice none 0 0)) ⟨w.heap.size + 1, 4, none⟩ (.int .i64 0)) ⟨w.heap.size + 1, 5, none⟩ (.int .i64 0)) ⟨w.heap.size + 1, 6, none⟩ (.slice none 0 0)) ⟨w.heap.size + 1, 7, none⟩ (.slice none 0 0)) ⟨w.heap.size + 1, 8, none⟩ (.int .i64 4)) ⟨w.heap.size + 1, 9, none⟩ (.int .i64 0)) = RgW w1 (w.heap.size + 1) ⟨⟨0, 0, 0⟩, [], 0, 0⟩ (.slice none 0 0) (.slice none 0 0) (.slice none 0 0) 4 0 from rfl]
    obtain ⟨hbq, q0, q1, q2, q3, q4, q5, q6, q7, q8, q9⟩ := RgAt.cells (k := ⟨⟨0, 0, 0⟩, [], 0, 0⟩) HS.out
    (try dsimp only at q0 q1 q2 q3 q4 q5)
    refine bodyPost_ret (v := .tuple #[rgV ⟨⟨0, 0, 0⟩, [], 0, 0⟩ (.slice none 0 0) (.slice none 0 0) (.slice none 0 0) 4 0, .int .i64 0]) ?_ rfl ⟨_, _, _, _, _, rfl, World.ownsRow_nil _ _ _ _, World.ownsRow_nil _ _ _ _, ?_⟩
    · simp [results, Tryz.results134, go_sem, q0, q1, q2, q3, q4, q5, q6, q7, q8, q9]
    · exact HU.out
  case pos =>
    rw [if_pos (by omega), if_pos (by omega)]
    have ho := (setOk_bd h.set).1
    have cU := fun wx => unpackBI_any k.set.ord s wx ho h4
    have hul := unpackL_length k.set.ord s.data.toList
    have cR : ∀ wx, RdP lo wx v k.ps → Calls Tryz.prog 164  #[kV k v, .string (bs (unpackL k.set.ord s.data.toList)), .int .i64 0, .int .i64 0] wx (RcPost (readN k.set.ord (unpackL k.set.ord s.data.toList) 0 0 (unpackL k.set.ord s.data.toList).length k 0 [] []) wx) := fun wx hr => readI_any k v lo (unpackL k.set.ord s.data.toList) 0 0 wx h hr (isBits_unpack _ _) (by omega) (by omega) (by omega)
    rw [hul] at cR
    have hfin := readS_fin h s.data.toList
    have hpos := hfin.pos
    rw [hul] at hpos
    have hp2 : (readS k s.data.toList).pos ≤ 32000 := by omega
    have hF := hfin.fin
    have HE : Hid (readN k.set.ord (unpackL k.set.ord s.data.toList) 0 0 (8 * s.data.toList.length) k 0 [] [] = readS k s.data.toList) := rfl
    rw [HE.out] at cR
    obtain ⟨uu, HUU⟩ : ∃ uu, Hid (usedS s.data.toList (readS k s.data.toList) = uu) := ⟨_, rfl⟩
    rw [HUU.out]
    unfold usedS at HUU
    clear hfin HE hul hpos
    generalize readS k s.data.toList = R at *
    generalize unpackL k.set.ord s.data.toList = bits at *
    obtain ⟨kR, codes, dat, fin, pos⟩ := R
    simp only at hp2 hF cR HUU ⊢
    obtain ⟨a, cap, rfl, -, -, -, -⟩ := hr
    clear h hv ho
    simp only [kV] at *
    go_enter Tryz.func134, Tryz.ntmps134
    go_wp2_with ((go_at_call 150; (with_reducible refine (cV _ (hrt _ (by (repeat (first | with_reducible exact Up.refl _ | with_reducible assumption | with_reducible refine Up.set ?_ (by first | exact Nat.le_refl _ | (simp only []; omega) | (simp; omega)) _ | with_reducible refine Up.alloc ?_ _ | with_reducible refine Up.drew ?_ | refine Up.trans ?_ (by with_reducible assumption)))))).mono ?_); rintro e w1 ⟨rfl, U1⟩; have B1 := bcell U1; have Z1 := U1.size; (try simp at Z1); (try rw [Nat.add_one_le_iff] at Z1)))
    have hK1 : KnAt w.heap.size k (.slice a k.ps.length cap) w1 := box_up U1 (box_up ((Up.refl _).alloc _) (MapKept.heap_alloc w _).1)
    have hQ1 : RgAt (w.heap.size + 1) ⟨⟨0, 0, 0⟩, [], 0, 0⟩ (.slice none 0 0) (.slice none 0 0) (.slice none 0 0) 0 0 w1 := box_up U1 (alloc2 w _ _)
    have hU1 : Up w w1 := by (repeat (first | with_reducible exact Up.refl _ | with_reducible assumption | with_reducible refine Up.set ?_ (by first | exact Nat.le_refl _ | (simp only []; omega) | (simp; omega)) _ | with_reducible refine Up.alloc ?_ _ | with_reducible refine Up.drew ?_ | refine Up.trans ?_ (by with_reducible assumption)))
    have hs1 := U1.size
    simp at hs1
    have HK := Lib.hid hK1
    have HQ := Lib.hid hQ1
    have HU := Lib.hid hU1
    clear hK1 hQ1 hU1 U1 B1 Z1
    refine wp_region_upf 8 (by kernel_rfl) (by kernel_rfl) ?_
    simp only [List.take, List.drop]
    repeat (refine wpUp_step (fun K hK => ?_); go_simp; (try simp only [↓IntWalk.iteOmega]); first
      | (refine hK _ _ ?_; clear hK K)
      | (apply stepU_c
         · intro wq hwq; (have hbq := bcell hwq; (repeat (first | refine fills_no (by rfl) ?_ | refine fills_yes (by rfl) (fun vq hvq => ?_))); simp only [List.filter_nil, fills]; unfold upAt; (try ((obtain ⟨hbk, s0, s1, s2, s3, s4, s5⟩ := (HK.out.up hwq).cells))); go_simp; (try go_bits); (try simp only [↓IntWalk.iteOmega]); (try (rw [dif_pos (by omega)]; go_simp; try go_bits)); first | exact upOut_value | (apply upOut_call; (go_at_call 165; exact cU _)) | (apply upOut_eq; (go_at_call 165; exact cU _)))
         go_simp; refine hK _ _ ?_; clear hK K)
      | (refine stepU_m (by kernel_rfl) ((RdO w1.heap.size ⟨kR, codes, dat, fin, pos⟩)) (rdO_closed _ _) (fun wq hwq => ?_) ?_
         · (have hbq := bcell hwq; (repeat (first | refine fills_no (by rfl) ?_ | refine fills_yes (by rfl) (fun vq hvq => ?_))); simp only [List.filter_nil, fills]; unfold upAt; (try ((obtain ⟨hbk, s0, s1, s2, s3, s4, s5⟩ := (HK.out.up hwq).cells))); go_simp; (try go_bits); (try simp only [↓IntWalk.iteOmega]); (try (rw [dif_pos (by omega)]; go_simp; try go_bits)); ((with_reducible refine upOut_rd (base := w1.heap.size) ?_ hwq.size); go_at_call 164; exact cR _ (hrt _ (HU.out.trans hwq))))
         refine hK _ _ ?_; clear hK K)
      | (refine stepU_m (by kernel_rfl) ((RgO w1.heap.size)) (rgO_closed _) (fun wq hwq => ?_) ?_
         · (have hbq := bcell hwq; (repeat (first | refine fills_no (by rfl) ?_ | refine fills_yes (by rfl) (fun vq hvq => ?_))); simp only [List.filter_nil, fills]; unfold upAt; (try ((obtain ⟨hbk, s0, s1, s2, s3, s4, s5⟩ := (HK.out.up hwq).cells))); go_simp; (try go_bits); (try simp only [↓IntWalk.iteOmega]); (try (rw [dif_pos (by omega)]; go_simp; try go_bits)); (exact ⟨(Up.refl _).alloc _, _, rfl, hwq.size, (MapKept.heap_alloc _ _).1⟩))
         refine hK _ _ ?_; clear hK K))
    refine wpUp_nil (fun wq hwq => ?_)
    simp only [fills]
    rintro u1 ⟨b, rfl, hbb, hbx⟩ u2 ⟨vp, vc, vd, rfl, hvp, hvc, hvd⟩
    obtain ⟨ap, cp, rfl⟩ := ownsRow_shape hvp
    obtain ⟨ac, cc, rfl⟩ := ownsRow_shape hvc
    obtain ⟨ad, cd, rfl⟩ := ownsRow_shape hvd
    obtain ⟨hbr, r0, r1, r2, r3, r4, r5, r6, r7, r8, r9⟩ := RgAt.cells (k := ⟨⟨0, 0, 0⟩, [], 0, 0⟩) hbx
    (try dsimp only at r0 r1 r2 r3 r4 r5)
    have hfb := box_free hbx
    have hB5 := RgAt.store hbx kR (.slice ap kR.ps.length cp) (.slice ac codes.length cc) (.slice ad dat.length cd) fin pos
    have hQ5 := (RgW.other (w := wq) (b := b) (show w.heap.size + 1 ≠ b by omega) kR (.slice ap kR.ps.length cp) (.slice ac codes.length cc) (.slice ad dat.length cd) fin pos).trans (box_up hwq HQ.out)
    have hC5 := RgW.own hvc (box_ne hbx hvc (by decide)) kR (.slice ap kR.ps.length cp) (.slice ac codes.length cc) (.slice ad dat.length cd) fin pos
    have hD5 := RgW.own hvd (box_ne hbx hvd (by decide)) kR (.slice ap kR.ps.length cp) (.slice ac codes.length cc) (.slice ad dat.length cd) fin pos
    have hU5 := RgW.up (HU.out.trans hwq) (show w.heap.size ≤ b by have := HU.out.size; omega) kR (.slice ap kR.ps.length cp) (.slice ac codes.length cc) (.slice ad dat.length cd) fin pos
    have HB5 := Lib.hid hB5
    have HC5 := Lib.hid hC5
    have HD5 := Lib.hid hD5
    have HU5 := Lib.hid hU5
    have HQ5 : Hid (RgAt (w.heap.size + 1) ⟨⟨0, 0, 0⟩, [], 0, 0⟩ (.slice none 0 0) (.slice none 0 0) (.slice none 0 0) 0 0 (RgW wq b kR (.slice ap kR.ps.length cp) (.slice ac codes.length cc) (.slice ad dat.length cd) fin pos)) := hQ5
    clear hB5 hC5 hD5 hU5 hQ5 hvp hvc hvd hbx HK HQ HU cU cR hrt cV
    go_wp2
    rw [onlyN_normal]
    rw [show (World.setCell (World.setCell (World.setCell (World.setCell (World.setCell (World.setCell (World.setCell (World.setCell (World.setCell (World.setCell wq ⟨b, 0, none⟩ (.int .i64 kR.set.ord)) ⟨b, 1, none⟩ (.int .i64 kR.set.lit)) ⟨b, 2, none⟩ (.int .i64 kR.set.most)) ⟨b, 3, none⟩ (.slice ap kR.ps.length cp)) ⟨b, 4, none⟩ (.int .i64 kR.base)) ⟨b, 5, none⟩ (.int .i64 kR.last)) ⟨b, 6, none⟩ (.slice ac codes.length cc)) ⟨b, 7, none⟩ (.slice ad dat.length cd)) ⟨b, 8, none⟩ (.int .i64 fin)) ⟨b, 9, none⟩ (.int .i64 pos)) = RgW wq b kR (.slice ap kR.ps.length cp) (.slice ac codes.length cc) (.slice ad dat.length cd) fin pos from rfl]
    generalize RgW wq b kR (.slice ap kR.ps.length cp) (.slice ac codes.length cc) (.slice ad dat.length cd) fin pos = W5 at *
    clear r0 r1 r2 r3 r4 r5 r6 r7 r8 r9 hfb hwq
    obtain ⟨hbr, r0, r1, r2, r3, r4, r5, r6, r7, r8, r9⟩ := HB5.out.cells
    obtain ⟨hbq, q0, q1, q2, q3, q4, q5, q6, q7, q8, q9⟩ := RgAt.cells (k := ⟨⟨0, 0, 0⟩, [], 0, 0⟩) HQ5.out
    (try dsimp only at q0 q1 q2 q3 q4 q5)
    have hfq := box_free HQ5.out
    have HQS := Lib.hid (RgAt.store HQ5.out kR (.slice ap kR.ps.length cp) (.slice ac codes.length cc) (.slice ad dat.length cd) fin pos)
    have HCS := Lib.hid (ownsRow_base (RgW.own HC5.out (low_ne (w := w) HC5.out (show w.heap.size + 1 < w1.heap.size by omega)) kR (.slice ap kR.ps.length cp) (.slice ac codes.length cc) (.slice ad dat.length cd) fin pos) (show w.heap.size ≤ w1.heap.size by omega))
    have HDS := Lib.hid (ownsRow_base (RgW.own HD5.out (low_ne (w := w) HD5.out (show w.heap.size + 1 < w1.heap.size by omega)) kR (.slice ap kR.ps.length cp) (.slice ac codes.length cc) (.slice ad dat.length cd) fin pos) (show w.heap.size ≤ w1.heap.size by omega))
    have HUS := Lib.hid (RgW.up HU5.out (show w.heap.size ≤ w.heap.size + 1 by omega) kR (.slice ap kR.ps.length cp) (.slice ac codes.length cc) (.slice ad dat.length cd) fin pos)
    by_cases hf1 : fin = 1
    · have hne : (fin == 1) = true := by simpa using hf1
      have HU9 : Hid ((uu : Int) = (s.size : Int)) := by unfold Hid; rw [← HUU.out, if_pos hf1, hlen]
      clear hf1
      go_wp2
      rw [show (World.setCell (World.setCell (World.setCell (World.setCell (World.setCell (World.setCell (World.setCell (World.setCell (World.setCell (World.setCell W5 ⟨w.heap.size + 1, 0, none⟩ (.int .i64 kR.set.ord)) ⟨w.heap.size + 1, 1, none⟩ (.int .i64 kR.set.lit)) ⟨w.heap.size + 1, 2, none⟩ (.int .i64 kR.set.most)) ⟨w.heap.size + 1, 3, none⟩ (.slice ap kR.ps.length cp)) ⟨w.heap.size + 1, 4, none⟩ (.int .i64 kR.base)) ⟨w.heap.size + 1, 5, none⟩ (.int .i64 kR.last)) ⟨w.heap.size + 1, 6, none⟩ (.slice ac codes.length cc)) ⟨w.heap.size + 1, 7, none⟩ (.slice ad dat.length cd)) ⟨w.heap.size + 1, 8, none⟩ (.int .i64 fin)) ⟨w.heap.size + 1, 9, none⟩ (.int .i64 pos)) = RgW W5 (w.heap.size + 1) kR (.slice ap kR.ps.length cp) (.slice ac codes.length cc) (.slice ad dat.length cd) fin pos from rfl]
      obtain ⟨hbq, q0, q1, q2, q3, q4, q5, q6, q7, q8, q9⟩ := HQS.out.cells
      refine bodyPost_ret (v := .tuple #[rgV kR (.slice ap kR.ps.length cp) (.slice ac codes.length cc) (.slice ad dat.length cd) fin pos, .int .i64 s.size]) ?_ rfl ⟨_, _, _, _, _, by rw [HU9.out], HCS.out, HDS.out, HUS.out⟩
      simp [results, Tryz.results134, go_sem, q0, q1, q2, q3, q4, q5, q6, q7, q8, q9]
    · have hne : (fin == 1) = false := by simpa using hf1
      have HU9 : Hid ((uu : Int) = ((pos : Int) + 7) / 8) := by unfold Hid; rw [← HUU.out, if_neg hf1]; omega
      go_wp2
      refine wp_region_own 7 5 (some (w.heap.size + 1)) (by kernel_rfl) (by kernel_rfl) ?_
      simp only [List.take, List.drop]
      repeat (refine wpG_step (fun K hK => ?_); go_simp; (try simp only [↓IntWalk.iteOmega]); first
        | (refine hK _ _ ?_; clear hK K)
        | (refine stepG_own (by rfl) (by kernel_rfl) ((fun u w' => RgAt (w.heap.size + 1) kR (.slice ap kR.ps.length cp) (.slice ac codes.length cc) (.slice ad dat.length cd) fin pos w')) ((fun v w w' h hu => box_up hu h)) (fun wq hwq => ?_) ?_
           · ((repeat (first | refine fills_no (by rfl) ?_ | refine fills_yes (by rfl) (fun vq hvq => ?_))); simp only [List.filter_nil, fills]; (obtain ⟨hbq, q0, q1, q2, q3, q4, q5, q6, q7, q8, q9⟩ := RgAt.cells (k := ⟨⟨0, 0, 0⟩, [], 0, 0⟩) (box_up hwq HQ5.out); (try dsimp only at q0 q1 q2 q3 q4 q5); have hfq := box_free (box_up hwq HQ5.out); unfold gAt; go_simp; exact ⟨(grownBy_set (grownBy_set (grownBy_set (grownBy_set (grownBy_set (grownBy_set (grownBy_set (grownBy_set (grownBy_set (grownBy_set (grownBy_refl _ _) _ _) _ _) _ _) _ _) _ _) _ _) _ _) _ _) _ _) _ _), RgAt.store (show RgAt (w.heap.size + 1) ⟨⟨0, 0, 0⟩, [], 0, 0⟩ (.slice none 0 0) (.slice none 0 0) (.slice none 0 0) 0 0 wq from box_up hwq HQ5.out) kR (.slice ap kR.ps.length cp) (.slice ac codes.length cc) (.slice ad dat.length cd) fin pos⟩))
           refine hK _ _ ?_; clear hK K)
        | (refine stepG_c (by rfl) ?_ ?_ ?_
           rotate_left
           · intro wq hwq; (have hbq := gcell hwq; (repeat (first | refine fills_no (by rfl) ?_ | refine fills_yes (by rfl) (fun vq hvq => ?_))); simp only [List.filter_nil, fills]; unfold upAt; (try ((obtain ⟨hbr, r0, r1, r2, r3, r4, r5, r6, r7, r8, r9⟩ := RgAt.cells (gbox hwq HB5.out (by simp; omega))))); go_simp; (try go_bits); (try simp only [↓IntWalk.iteOmega]); (try (rw [dif_pos (by omega)]; go_simp; try go_bits)); first | exact upOut_value)
           go_simp; refine hK _ _ ?_; clear hK K))
      refine wpG_nil (by rfl) (fun wq hwq => ?_)
      simp only [fills]
      rintro u hkr
      have HCT := Lib.hid (ownsRow_base (HC5.out.kept hwq (low_ne' (w := w) HC5.out (show w.heap.size + 1 < w1.heap.size by omega))) (show w.heap.size ≤ w1.heap.size by omega))
      have HDT := Lib.hid (ownsRow_base (HD5.out.kept hwq (low_ne' (w := w) HD5.out (show w.heap.size + 1 < w1.heap.size by omega))) (show w.heap.size ≤ w1.heap.size by omega))
      have HUT := Lib.hid (up_grown' HU5.out hwq (show w.heap.size ≤ w.heap.size + 1 by omega))
      obtain ⟨hbq, q0, q1, q2, q3, q4, q5, q6, q7, q8, q9⟩ := RgAt.cells hkr
      clear hwq hkr
      go_wp2
      refine bodyPost_ret (v := .tuple #[rgV kR (.slice ap kR.ps.length cp) (.slice ac codes.length cc) (.slice ad dat.length cd) fin pos, .int .i64 (((pos : Int) + 7) / 8)]) ?_ rfl ⟨_, _, _, _, _, by rw [HU9.out], HCT.out, HDT.out, HUT.out⟩
      simp [results, Tryz.results134, go_sem, q0, q1, q2, q3, q4, q5, q6, q7, q8, q9]

theorem upk_dec {k : KnD} (s : List UInt8) : (upkR k s).data = (decK k s).data ∧ (upkR k s).fin = (decK k s).fin ∧ upkU k s = (decK k s).used := by
  unfold upkR upkU decK
  split <;> exact ⟨rfl, rfl, rfl⟩

set_option maxRecDepth 100000 in
set_option maxHeartbeats 4000000 in
theorem decI_any (k : KnD) (v : Value) (lo : Nat) (s : ByteArray) (w : World) (h : k.Ok) (hv : k.last = -1 → k.base = k.ps.length) (hr : RdP lo w v k.ps) (hs : s.size ≤ 1073741824) :
    Calls Tryz.prog 82  #[kV k v, .string s] w (Same (decV (decK k s.data.toList)) w) := by
  have cU := fun wx hr => upkI_any k v lo s wx h hv hr hs
  have hrt := fun (wq : World) (hu : Up w wq) => hr.up hu
  obtain ⟨u1, u2, u3⟩ := upk_dec (k := k) s.data.toList
  unfold decV
  rw [← u1, ← u2, ← u3]
  unfold UpkPost at cU
  obtain ⟨a, cap, rfl, -, -, -, -⟩ := hr
  clear h hv u1 u2 u3
  generalize upkR k s.data.toList = R at *
  generalize upkU k s.data.toList = uu at *
  obtain ⟨kR, codes, dat, fin, pos⟩ := R
  simp only [kV] at *
  go_enter Tryz.func82, Tryz.ntmps82
  go_wp2_with (go_at_call 134; (with_reducible refine (cU _ (hrt _ (by (repeat (first | with_reducible exact Up.refl _ | with_reducible assumption | with_reducible refine Up.set ?_ (by first | exact Nat.le_refl _ | (simp only []; omega) | (simp; omega)) _ | with_reducible refine Up.alloc ?_ _ | with_reducible refine Up.drew ?_ | refine Up.trans ?_ (by with_reducible assumption)))))).mono ?_); rintro e w1 ⟨ap, np, cp, vc, vd, rfl, hvc, hvd, U1⟩; obtain ⟨ac, cc, rfl⟩ := ownsRow_shape hvc; obtain ⟨ad, cd, rfl⟩ := ownsRow_shape hvd; have HD := Lib.hid hvd; clear hvc hvd)
  refine wp_region_up 9 (by kernel_rfl) (by kernel_rfl) ?_
  simp only [List.take, List.drop]
  repeat (refine wpUp_step (fun K hK => ?_); go_simp; (try simp only [↓IntWalk.iteOmega]); first
    | (refine hK _ _ ?_; clear hK K)
    | (apply stepU_c
       · intro wq hwq; (have hbq := bcell hwq; (repeat (first | refine fills_no (by rfl) ?_ | refine fills_yes (by rfl) (fun vq hvq => ?_))); simp only [List.filter_nil, fills]; unfold upAt; (try ((have hconv := conv_any (ownsRow_up (ownsRow_up HD.out (Up.alloc (Up.refl _) _)) hwq) rfl; obtain ⟨hbr, r0, r1, r2, r3, r4, r5, r6, r7, r8, r9⟩ := RgAt.cells (k := kR) (box_up hwq (MapKept.heap_alloc w1 _).1)))); go_simp; (try go_bits); (try simp only [↓IntWalk.iteOmega]); (try (rw [dif_pos (by omega)]; go_simp; try go_bits)); first | exact upOut_value)
       go_simp; refine hK _ _ ?_; clear hK K))
  refine wpUp_nil (fun wq hwq => ?_)
  simp only [fills]
  have hU := ((U1.alloc _).trans hwq)
  clear hwq U1
  go_wp2
  refine bodyPost_ret (v := .tuple #[.string (bs dat), .int .i64 fin, .int .i64 uu]) (by simp [results, Tryz.results82, go_sem]; try rfl) rfl ⟨rfl, ?_⟩
  (repeat (first | with_reducible exact Up.refl _ | with_reducible assumption | with_reducible refine Up.set ?_ (by first | exact Nat.le_refl _ | (simp only []; omega) | (simp; omega)) _ | with_reducible refine Up.alloc ?_ _ | with_reducible refine Up.drew ?_ | refine Up.trans ?_ (by with_reducible assumption)))

set_option maxRecDepth 100000 in
set_option maxHeartbeats 4000000 in
theorem decWI_any (s : SetD) (dict st : ByteArray) (w : World) (hli : -9223372036854775808 ≤ s.lit ∧ s.lit ≤ 9223372036854775807) (hi : dict.size ≤ 1073741824) (hs : st.size ≤ 1073741824) :
    Calls Tryz.prog 31  #[setV s, .string dict, .string st] w (Same (decV (decW s dict.data.toList st.data.toList)) w) := by
  have cS := fun wx => startWI_any s dict wx hli hi
  unfold decW
  cases hf : fitsB s dict.data.toList
  · rw [hf] at cS
    simp only [Bool.false_eq_true, if_false] at cS ⊢
    unfold decV
    clear hf
    simp only [setV] at *
    go_enter Tryz.func31, Tryz.ntmps31
    go_wp2_with ((go_at_call 64; (with_reducible refine (cS _).mono ?_); rintro e w1 ⟨rfl, U1⟩; have B1 := bcell U1; have Z1 := U1.size; (try simp at Z1); (try rw [Nat.add_one_le_iff] at Z1)))
    refine bodyPost_ret (v := .tuple #[.string ByteArray.empty, .int .i64 4, .int .i64 0]) (by simp [results, Tryz.results31, go_sem]; try rfl) rfl ⟨rfl, ?_⟩
    (repeat (first | with_reducible exact Up.refl _ | with_reducible assumption | with_reducible refine Up.set ?_ (by first | exact Nat.le_refl _ | (simp only []; omega) | (simp; omega)) _ | with_reducible refine Up.alloc ?_ _ | with_reducible refine Up.drew ?_ | refine Up.trans ?_ (by with_reducible assumption)))
  · rw [hf] at cS
    simp only [if_true] at cS ⊢
    obtain ⟨h1, h2, h3⟩ := fitsB_lits hf
    have hok : (learnK (startK s) dict.data.toList).Ok := learnK_ok (startK_ok h1) h3
    have cD := fun wx v hr => decI_any (learnK (startK s) dict.data.toList) v 0 st wx hok (fun _ => rfl) hr hs
    clear hf h1 h2 h3 hok
    generalize learnK (startK s) dict.data.toList = kk at *
    unfold decV at *
    generalize decK kk st.data.toList = oo at *
    simp only [setV, kV] at *
    go_enter Tryz.func31, Tryz.ntmps31
    go_wp2_with (first | (go_at_call 64; (with_reducible refine (cS _).mono ?_); rintro e w1 ⟨v1, rfl, ho1, U1⟩; obtain ⟨a1, c1, rfl⟩ := ownsRow_shape ho1; have HO1 := Lib.hid ho1; clear ho1) | (go_at_call 82; (with_reducible refine (cD _ _ (((RdP.of_own HO1.out).up (by (repeat (first | with_reducible exact Up.refl _ | with_reducible assumption | with_reducible refine Up.set ?_ (by first | exact Nat.le_refl _ | (simp only []; omega) | (simp; omega)) _ | with_reducible refine Up.alloc ?_ _ | with_reducible refine Up.drew ?_ | refine Up.trans ?_ (by with_reducible assumption))))).low (Nat.zero_le _))).mono ?_); rintro e w3 ⟨rfl, U3⟩; have B3 := bcell U3; have Z3 := U3.size; (try simp at Z3); (try rw [Nat.add_one_le_iff] at Z3)))
    refine bodyPost_ret (v := .tuple #[.string (bs oo.data), .int .i64 oo.fin, .int .i64 oo.used]) (by simp [results, Tryz.results31, go_sem]; try rfl) rfl ⟨rfl, ?_⟩
    (repeat (first | with_reducible exact Up.refl _ | with_reducible assumption | with_reducible refine Up.set ?_ (by first | exact Nat.le_refl _ | (simp only []; omega) | (simp; omega)) _ | with_reducible refine Up.alloc ?_ _ | with_reducible refine Up.drew ?_ | refine Up.trans ?_ (by with_reducible assumption)))

end Go.Proofs.YtekbbnkkninolaaGreat

/- Plain laws on the best dictionary; walks of the reference's l4Fits, l4Size, l4Total, BestDict, BestSample. Conditions: the strings can be read and are no longer than 2^20 bytes. -/
namespace Go.Proofs.YtekbbnkkninolaaGreat
set_option linter.unusedVariables false
set_option linter.unusedSimpArgs false
open Go Go.RowKit

/-- The least index with the least value among the indices 0 to n. -/
def bestI (f : Nat → Nat) : Nat → Nat
  | 0 => 0
  | n + 1 => if f (n + 1) < f (bestI f n) then n + 1 else bestI f n
theorem bestI_le (f : Nat → Nat) : ∀ n, bestI f n ≤ n
  | 0 => Nat.le_refl _
  | n + 1 => by
    have := bestI_le f n
    unfold bestI; split <;> omega
/-- The size of the stream of data with a dictionary; of all texts. -/
def szW (s : SetD) (dict d : ByteArray) : Nat := ((compW s dict.data.toList d.data.toList).getD []).length
def totW (s : SetD) (dict : ByteArray) (ts : List ByteArray) : Nat := (ts.map (szW s dict)).sum
def allFitB (s : SetD) (l : List ByteArray) : Bool := decide (1 ≤ l.length) && decide (l.length ≤ 8) && l.all fun t => fitsB s t.data.toList
theorem allFit_iff {s : SetD} {l : List ByteArray} : allFitB s l = true ↔ 1 ≤ l.length ∧ l.length ≤ 8 ∧ ∀ t ∈ l, fitsB s t.data.toList = true := by
  unfold allFitB
  simp only [Bool.and_eq_true, decide_eq_true_eq, List.all_eq_true]
  exact ⟨fun ⟨⟨a, b⟩, c⟩ => ⟨a, b, c⟩, fun ⟨a, b, c⟩ => ⟨⟨a, b⟩, c⟩⟩
theorem allFit_no {s : SetD} {l : List ByteArray} {i : Nat} (h : i < l.length) (hn : fitsB s (l[i]).data.toList = false) : allFitB s l = false := by
  cases e : allFitB s l
  · rfl
  · have := (allFit_iff.1 e).2.2 _ (List.getElem_mem h)
    rw [hn] at this; cases this
theorem compL_len2 {k : KnD} {d : List UInt8} (h : k.Ok) (hl : ∀ b ∈ d, b.toNat < k.c) (hd : d.length ≤ 2000) : (compL k d).length ≤ 10000 := by
  obtain ⟨g1, g2, g3, g4, g5⟩ := walk_greedy h hl hd
  have g6 := greedy_len k d
  have g7 := packC_len k.set.ord (greedy k d) (walkN k (greedy k d) [] []).ws (fun x hx => ⟨by have := (g4 x hx).1; omega, by have := (g4 x hx).2; omega⟩)
  unfold compL
  rw [packL_length]; omega
theorem compW_len2 {s : SetD} {dict d : List UInt8} : ((compW s dict d).getD []).length ≤ 10000 := by
  unfold compW
  split
  · next h1 =>
    obtain ⟨f1, f2, f3⟩ := fitsB_lits h1
    have hok : (learnK (startK s) dict).Ok := learnK_ok (startK_ok f1) f3
    unfold compO
    split
    · next h2 =>
      obtain ⟨e1, e2, e3⟩ := fitsB_lits h2
      exact compL_len2 hok e3 e2
    · simp
  · simp
theorem szW_bd (s : SetD) (dict d : ByteArray) : szW s dict d ≤ 10000 := compW_len2
theorem sum_bd (f : ByteArray → Nat) (h : ∀ x, f x ≤ 10000) : ∀ l : List ByteArray, (l.map f).sum ≤ 10000 * l.length
  | [] => by simp
  | x :: l => by
    have h1 := h x
    have h2 := sum_bd f h l
    simp only [List.map_cons, List.sum_cons, List.length_cons]; omega
theorem sum_take (f : ByteArray → Nat) {l : List ByteArray} {i : Nat} (h : i < l.length) : ((l.take (i + 1)).map f).sum = ((l.take i).map f).sum + f l[i] := by
  rw [List.take_succ_eq_append_getElem h, List.map_append, List.sum_append]; simp

set_option maxRecDepth 100000 in
set_option maxHeartbeats 1000000 in
theorem l4Size_any (s : SetD) (dict d : ByteArray) (w : World) (hi : dict.size ≤ 1073741824) (hd : d.size ≤ 1073741824) :
    Calls Tryz.prog 96  #[setV s, .string dict, .string d] w (Same (.int .i64 (szW s dict d : Nat)) w) := by
  have cC := fun wx => compWS_any s dict d wx hi hd
  have hz := bs_size ((compW s dict.data.toList d.data.toList).getD [])
  have hsz := szW_bd s dict d
  unfold optS at cC
  unfold szW at hsz ⊢
  generalize (compW s dict.data.toList d.data.toList).isSome = ok at *
  generalize (compW s dict.data.toList d.data.toList).getD [] = c at *
  simp only [setV] at *
  go_enter Tryz.func96, Tryz.ntmps96
  go_wp2_with ((go_at_call 29; (with_reducible refine (cC _).mono ?_); rintro e w1 ⟨rfl, U1⟩; have B1 := bcell U1; have Z1 := U1.size; (try simp at Z1); (try rw [Nat.add_one_le_iff] at Z1)))
  go_ret
  refine ⟨rfl, ?_⟩
  (repeat (first | with_reducible exact Up.refl _ | with_reducible assumption | with_reducible refine Up.set ?_ (by first | exact Nat.le_refl _ | (simp only []; omega) | (simp; omega)) _ | with_reducible refine Up.alloc ?_ _ | with_reducible refine Up.drew ?_ | refine Up.trans ?_ (by with_reducible assumption)))

def RelFi (s : SetD) (l : List ByteArray) (w : World) (i : Value) (wr : World) : Prop := ∃ j : Nat, i = .int .i64 j ∧ j ≤ l.length ∧ (∀ q (h : q < l.length), q < j → fitsB s (l[q]).data.toList = true) ∧ SetAt w.heap.size s.ord s.lit s.most wr ∧ Up w wr
theorem fits_set {s : SetD} {d : List UInt8} (h : fitsB s d = true) : setOk s = true := (fitsB_lits h).1

set_option maxRecDepth 100000 in
set_option maxHeartbeats 4000000 in
theorem l4Fits_any (s : SetD) (l : List ByteArray) (v : Value) (w : World) (h : ArgS w v l) (hl : l.length ≤ 1048576) (hs : ∀ t ∈ l, t.size ≤ 1048576) :
    Calls Tryz.prog 94  #[setV s, v] w (Same (.bool (allFitB s l)) w) := by
  have hat := h
  obtain ⟨a, cap, rfl, hm, hms, -⟩ := h
  obtain ⟨o, li, mo⟩ := s
  have cV := fun w => setS_any o li mo w
  have cI := fun w => l1In_any (l.length : Int) 1 8 w
  simp only [setV] at *
  go_enter Tryz.func94, Tryz.ntmps94
  go_wp2
  go_loopw [5] (fun i wr => RelFi ⟨o, li, mo⟩ l w i wr) (fun i _ => l.length - (intOf i).toNat)
  case atStart => exact ⟨0, rfl, Nat.zero_le _, fun q h1 h2 => absurd h2 (Nat.not_lt_zero _), (MapKept.heap_alloc w _).1, by (repeat (first | with_reducible exact Up.refl _ | with_reducible assumption | with_reducible refine Up.set ?_ (by first | exact Nat.le_refl _ | (simp only []; omega) | (simp; omega)) _ | with_reducible refine Up.alloc ?_ _ | with_reducible refine Up.drew ?_ | refine Up.trans ?_ (by with_reducible assumption)))⟩
  case round =>
    obtain ⟨j, rfl, hj, hall, hset, hup⟩ := hrel
    obtain ⟨hb0, s0, s1, s2⟩ := hset.cells
    have HA := Lib.hid hall
    have HSE := Lib.hid hset
    clear hall hset
    by_cases hlt : j < l.length
    · obtain ⟨b, off, rfl, hbl, hx, -, hnc, hcm⟩ := (hat.up hup).at hlt
      have hsj := hs _ (List.getElem_mem hlt)
      have cF := fun wx => fitsS_any ⟨o, li, mo⟩ l[j] wx (by omega)
      unfold maxLen at hcm
      cases hf : fitsB ⟨o, li, mo⟩ (l[j]).data.toList
      · rw [hf] at cF
        have HN : Hid (allFitB ⟨o, li, mo⟩ l = false) := allFit_no hlt hf
        clear hf
        generalize l[j] = t at *
        simp only [setV] at cF
        go_wp2
        refine wp_region_up 7 (by kernel_rfl) (by kernel_rfl) ?_
        simp only [List.take, List.drop]
        repeat (refine wpUp_step (fun K hK => ?_); go_simp; (try simp only [↓IntWalk.iteOmega]); first
          | (refine hK _ _ ?_; clear hK K)
          | (apply stepU_c
             · intro wq hwq; (have hbq := bcell hwq; (repeat (first | refine fills_no (by rfl) ?_ | refine fills_yes (by rfl) (fun vq hvq => ?_))); simp only [List.filter_nil, fills]; unfold upAt; (try ((have hx2 := (hwq.cell (p := ⟨b, off + j, none⟩) hbl).trans hx))); go_simp; (try go_bits); (try simp only [↓IntWalk.iteOmega]); (try (rw [dif_pos (by omega)]; go_simp; try go_bits)); first | exact upOut_value | (apply upOut_call; (go_at_call 95; exact cF _)) | (apply upOut_eq; (go_at_call 95; exact cF _)))
             go_simp; refine hK _ _ ?_; clear hK K))
        refine wpUp_nil (fun wq hwq => ?_)
        simp only [fills]
        go_wp2
        go_ret
        refine ⟨ret_bool HN.out.symm, ?_⟩
        (repeat (first | with_reducible exact Up.refl _ | with_reducible assumption | with_reducible refine Up.set ?_ (by first | exact Nat.le_refl _ | (simp only []; omega) | (simp; omega)) _ | with_reducible refine Up.alloc ?_ _ | with_reducible refine Up.drew ?_ | refine Up.trans ?_ (by with_reducible assumption)))
      · rw [hf] at cF
        have HN : Hid (∀ q (h : q < l.length), q < j + 1 → fitsB ⟨o, li, mo⟩ (l[q]).data.toList = true) := fun q h1 h2 => by
          rcases Nat.lt_or_ge q j with h3 | h3
          · exact HA.out q h1 h3
          · have : q = j := by omega
            subst this; exact hf
        clear hf
        generalize l[j] = t at *
        simp only [setV] at cF
        go_wp2
        refine wp_region_up 7 (by kernel_rfl) (by kernel_rfl) ?_
        simp only [List.take, List.drop]
        repeat (refine wpUp_step (fun K hK => ?_); go_simp; (try simp only [↓IntWalk.iteOmega]); first
          | (refine hK _ _ ?_; clear hK K)
          | (apply stepU_c
             · intro wq hwq; (have hbq := bcell hwq; (repeat (first | refine fills_no (by rfl) ?_ | refine fills_yes (by rfl) (fun vq hvq => ?_))); simp only [List.filter_nil, fills]; unfold upAt; (try ((have hx2 := (hwq.cell (p := ⟨b, off + j, none⟩) hbl).trans hx))); go_simp; (try go_bits); (try simp only [↓IntWalk.iteOmega]); (try (rw [dif_pos (by omega)]; go_simp; try go_bits)); first | exact upOut_value | (apply upOut_call; (go_at_call 95; exact cF _)) | (apply upOut_eq; (go_at_call 95; exact cF _)))
             go_simp; refine hK _ _ ?_; clear hK K))
        refine wpUp_nil (fun wq hwq => ?_)
        simp only [fills]
        go_wp2
        go_roundw
        case rel => exact ⟨j + 1, by go_num, by omega, HN.out, box_up hwq HSE.out, by (repeat (first | with_reducible exact Up.refl _ | with_reducible assumption | with_reducible refine Up.set ?_ (by first | exact Nat.le_refl _ | (simp only []; omega) | (simp; omega)) _ | with_reducible refine Up.alloc ?_ _ | with_reducible refine Up.drew ?_ | refine Up.trans ?_ (by with_reducible assumption)))⟩
        case measure => simp [intOf]; omega
    · have e : j = l.length := by omega
      subst e
      cases hso : setOk ⟨o, li, mo⟩
      · have HN : Hid (allFitB ⟨o, li, mo⟩ l = false) := by
          unfold Hid
          cases e : allFitB ⟨o, li, mo⟩ l
          · rfl
          · obtain ⟨h1, h2, h3⟩ := allFit_iff.1 e
            have := fits_set (h3 l[0] (List.getElem_mem (by omega)))
            rw [hso] at this; cases this
        rw [hso] at cV
        clear hso
        go_wp2_with (first | (go_at_call 142; (with_reducible refine (cV _).mono ?_); rintro e w1 ⟨rfl, U1⟩; have B1 := bcell U1; have Z1 := U1.size; (try simp at Z1); (try rw [Nat.add_one_le_iff] at Z1)))
        go_ret
        refine ⟨ret_bool HN.out.symm, ?_⟩
        (repeat (first | with_reducible exact Up.refl _ | with_reducible assumption | with_reducible refine Up.set ?_ (by first | exact Nat.le_refl _ | (simp only []; omega) | (simp; omega)) _ | with_reducible refine Up.alloc ?_ _ | with_reducible refine Up.drew ?_ | refine Up.trans ?_ (by with_reducible assumption)))
      · have HN : Hid (allFitB ⟨o, li, mo⟩ l = inB (l.length : Int) 1 8) := by
          unfold Hid
          rw [Bool.eq_iff_iff, allFit_iff, inB_iff]
          exact ⟨fun h => by omega, fun h => ⟨by omega, by omega, fun t ht => by
            obtain ⟨q, hq, rfl⟩ := List.mem_iff_getElem.1 ht
            exact HA.out q hq hq⟩⟩
        rw [hso] at cV
        clear hso
        generalize inB (l.length : Int) 1 8 = ib at *
        go_wp2_with (first | (go_at_call 142; (with_reducible refine (cV _).mono ?_); rintro e w1 ⟨rfl, U1⟩; have B1 := bcell U1; have Z1 := U1.size; (try simp at Z1); (try rw [Nat.add_one_le_iff] at Z1)) | (go_at_call 66; (with_reducible refine (cI _).mono ?_); rintro e w' ⟨rfl, rfl⟩))
        go_ret
        refine ⟨ret_bool HN.out.symm, ?_⟩
        (repeat (first | with_reducible exact Up.refl _ | with_reducible assumption | with_reducible refine Up.set ?_ (by first | exact Nat.le_refl _ | (simp only []; omega) | (simp; omega)) _ | with_reducible refine Up.alloc ?_ _ | with_reducible refine Up.drew ?_ | refine Up.trans ?_ (by with_reducible assumption)))

end Go.Proofs.YtekbbnkkninolaaGreat

/- Walks of the reference's l4Total, BestDict, BestSample. Conditions: the strings can be read and are no longer than 2^20 bytes. -/
namespace Go.Proofs.YtekbbnkkninolaaGreat
set_option linter.unusedVariables false
set_option linter.unusedSimpArgs false
open Go Go.RowKit

/-- The index of the best dictionary; -1 if the arguments are not valid. -/
def bestV (s : SetD) (ds ts : List ByteArray) (ok : Bool) : Int := if allFitB s ds && ok then (bestI (fun i => totW s (ds.getD i ByteArray.empty) ts) (ds.length - 1) : Nat) else -1
theorem totW_one (s : SetD) (dict t : ByteArray) : totW s dict [t] = szW s dict t := by simp [totW]
theorem getD_lt {ds : List ByteArray} {i : Nat} (h : i < ds.length) : ds.getD i ByteArray.empty = ds[i] := by rw [List.getD_eq_getElem?_getD, List.getElem?_eq_getElem h]; rfl
def RelBe (f : Nat → Nat) (n : Nat) (s : SetD) (sb : Nat) (w : World) (b i : Value) (wr : World) : Prop := ∃ j : Nat, i = .int .i64 ((j : Int) + 1) ∧ j + 1 ≤ n ∧ b = .int .i64 (bestI f j : Nat) ∧ SetAt sb s.ord s.lit s.most wr ∧ Up w wr

set_option maxRecDepth 100000 in
set_option maxHeartbeats 4000000 in
theorem bestDictS_any (s : SetD) (ds : List ByteArray) (v : Value) (d : ByteArray) (w : World) (h : ArgS w v ds) (hl : ds.length ≤ 1048576) (hs : ∀ t ∈ ds, t.size ≤ 1048576) (hd : d.size ≤ 1048576) :
    Calls Tryz.prog 35  #[setV s, v, .string d] w (Same (.int .i64 (bestV s ds [d] (fitsB s d.data.toList))) w) := by
  have hat := h
  have cF := fun wx hr => l4Fits_any s ds v wx hr hl hs
  have cD := fun wx => fitsS_any s d wx (by omega)
  have hrt := fun (wq : World) (hu : Up w wq) => h.up hu
  unfold bestV
  cases h1 : allFitB s ds
  · rw [h1] at cF
    simp only [Bool.false_and, Bool.false_eq_true, if_false]
    obtain ⟨a, cap, rfl, hm, hms, -⟩ := h
    clear h1
    simp only [setV] at *
    go_enter Tryz.func35, Tryz.ntmps35
    go_wp2_with ((go_at_call 94; (with_reducible refine (cF _ (hrt _ (by (repeat (first | with_reducible exact Up.refl _ | with_reducible assumption | with_reducible refine Up.set ?_ (by first | exact Nat.le_refl _ | (simp only []; omega) | (simp; omega)) _ | with_reducible refine Up.alloc ?_ _ | with_reducible refine Up.drew ?_ | refine Up.trans ?_ (by with_reducible assumption)))))).mono ?_); rintro e w1 ⟨rfl, U1⟩; have B1 := bcell U1; have Z1 := U1.size; (try simp at Z1); (try rw [Nat.add_one_le_iff] at Z1)))
    go_ret
    refine ⟨rfl, ?_⟩
    (repeat (first | with_reducible exact Up.refl _ | with_reducible assumption | with_reducible refine Up.set ?_ (by first | exact Nat.le_refl _ | (simp only []; omega) | (simp; omega)) _ | with_reducible refine Up.alloc ?_ _ | with_reducible refine Up.drew ?_ | refine Up.trans ?_ (by with_reducible assumption)))
  · rw [h1] at cF
    cases h2 : fitsB s d.data.toList
    · rw [h2] at cD
      simp only [Bool.true_and, Bool.false_eq_true, if_false]
      obtain ⟨a, cap, rfl, hm, hms, -⟩ := h
      clear h1 h2
      simp only [setV] at *
      go_enter Tryz.func35, Tryz.ntmps35
      go_wp2_with (first | ((go_at_call 94; (with_reducible refine (cF _ (hrt _ (by (repeat (first | with_reducible exact Up.refl _ | with_reducible assumption | with_reducible refine Up.set ?_ (by first | exact Nat.le_refl _ | (simp only []; omega) | (simp; omega)) _ | with_reducible refine Up.alloc ?_ _ | with_reducible refine Up.drew ?_ | refine Up.trans ?_ (by with_reducible assumption)))))).mono ?_); rintro e w1 ⟨rfl, U1⟩; have B1 := bcell U1; have Z1 := U1.size; (try simp at Z1); (try rw [Nat.add_one_le_iff] at Z1)); (try have Y1a : w.heap.size < w1.heap.size := (by omega)); (try have Y1b : w.heap.size + 1 < w1.heap.size := (by omega)); (try have Y1c : w.heap.size + 1 + 1 < w1.heap.size := (by omega)); (try have Y1d : w.heap.size + 1 + 1 + 1 < w1.heap.size := (by omega)); skip) | (go_at_call 95; (with_reducible refine (cD _).mono ?_); rintro e w2 ⟨rfl, U2⟩; have B2 := bcell U2; have Z2 := U2.size; (try simp at Z2); (try rw [Nat.add_one_le_iff] at Z2)))
      go_ret
      refine ⟨rfl, ?_⟩
      (repeat (first | with_reducible exact Up.refl _ | with_reducible assumption | with_reducible refine Up.set ?_ (by first | exact Nat.le_refl _ | (simp only []; omega) | (simp; omega)) _ | with_reducible refine Up.alloc ?_ _ | with_reducible refine Up.drew ?_ | refine Up.trans ?_ (by with_reducible assumption)))
    · rw [h2] at cD
      simp only [Bool.true_and, if_true]
      obtain ⟨l1, l2, l3⟩ := allFit_iff.1 h1
      obtain ⟨a, cap, rfl, hm, hms, -⟩ := h
      clear h1 h2 l3
      simp only [setV] at *
      go_enter Tryz.func35, Tryz.ntmps35
      go_wp2_with (first | ((go_at_call 94; (with_reducible refine (cF _ (hrt _ (by (repeat (first | with_reducible exact Up.refl _ | with_reducible assumption | with_reducible refine Up.set ?_ (by first | exact Nat.le_refl _ | (simp only []; omega) | (simp; omega)) _ | with_reducible refine Up.alloc ?_ _ | with_reducible refine Up.drew ?_ | refine Up.trans ?_ (by with_reducible assumption)))))).mono ?_); rintro e w1 ⟨rfl, U1⟩; have B1 := bcell U1; have Z1 := U1.size; (try simp at Z1); (try rw [Nat.add_one_le_iff] at Z1)); (try have Y1a : w.heap.size < w1.heap.size := (by omega)); (try have Y1b : w.heap.size + 1 < w1.heap.size := (by omega)); (try have Y1c : w.heap.size + 1 + 1 < w1.heap.size := (by omega)); (try have Y1d : w.heap.size + 1 + 1 + 1 < w1.heap.size := (by omega)); skip) | (go_at_call 95; (with_reducible refine (cD _).mono ?_); rintro e w2 ⟨rfl, U2⟩; have B2 := bcell U2; have Z2 := U2.size; (try simp at Z2); (try rw [Nat.add_one_le_iff] at Z2)))
      have hSE : SetAt w.heap.size s.ord s.lit s.most w2 := box_up U2 (box_up U1 (MapKept.heap_alloc w _).1)
      have hUU : Up w w2 := by (repeat (first | with_reducible exact Up.refl _ | with_reducible assumption | with_reducible refine Up.set ?_ (by first | exact Nat.le_refl _ | (simp only []; omega) | (simp; omega)) _ | with_reducible refine Up.alloc ?_ _ | with_reducible refine Up.drew ?_ | refine Up.trans ?_ (by with_reducible assumption)))
      go_loopw [7, 8] (fun b i wr => RelBe (fun i => totW s (ds.getD i ByteArray.empty) [d]) ds.length s w.heap.size w b i wr) (fun _ i _ => ds.length - (intOf i).toNat)
      case atStart => exact ⟨0, rfl, by omega, rfl, hSE, hUU⟩
      case round =>
        clear hSE hUU U1 U2
        obtain ⟨j, rfl, hj, rfl, hset, hup⟩ := hrel
        obtain ⟨hb0, s0, s1, s2⟩ := hset.cells
        have HSE := Lib.hid hset
        clear hset
        have hbl9 := bestI_le (fun i => totW s (ds.getD i ByteArray.empty) [d]) j
        have hjn : j < ds.length := by omega
        by_cases hlt : j + 1 < ds.length
        · obtain ⟨b, off, rfl, hbl, hx, -, hnc, hcm⟩ := (hat.up hup).at hlt
          obtain ⟨b', off', e, -, hy, -, -, -⟩ := (hat.up hup).at (show bestI (fun i => totW s (ds.getD i ByteArray.empty) [d]) j < ds.length by omega)
          cases e
          have hs1 := hs _ (List.getElem_mem hlt)
          have hs2 := hs _ (List.getElem_mem (show bestI (fun i => totW s (ds.getD i ByteArray.empty) [d]) j < ds.length by omega))
          have c1 := fun wx => l4Size_any s ds[j + 1] d wx (by omega) (by omega)
          have c2 := fun wx => l4Size_any s (ds[bestI (fun i => totW s (ds.getD i ByteArray.empty) [d]) j]'(by omega)) d wx (by omega) (by omega)
          have e1 : totW s (ds.getD (j + 1) ByteArray.empty) [d] = szW s ds[j + 1] d := by rw [totW_one, getD_lt hlt]
          have e2 : totW s (ds.getD (bestI (fun i => totW s (ds.getD i ByteArray.empty) [d]) j) ByteArray.empty) [d] = szW s (ds[bestI (fun i => totW s (ds.getD i ByteArray.empty) [d]) j]'(by omega)) d := by rw [totW_one, getD_lt (by omega)]
          have hB : bestI (fun i => totW s (ds.getD i ByteArray.empty) [d]) (j + 1) = if szW s ds[j + 1] d < szW s (ds[bestI (fun i => totW s (ds.getD i ByteArray.empty) [d]) j]'(by omega)) d then j + 1 else bestI (fun i => totW s (ds.getD i ByteArray.empty) [d]) j := by
            rw [← e1, ← e2]; rfl
          have HB := Lib.hid hB
          clear e1 e2 hB
          unfold maxLen at hcm
          generalize (ds[bestI (fun i => totW s (ds.getD i ByteArray.empty) [d]) j]'(by omega)) = t2 at *
          generalize ds[j + 1] = t1 at *
          generalize hqb : bestI (fun i => totW s (ds.getD i ByteArray.empty) [d]) j = q at *
          clear hqb
          simp only [setV] at c1 c2
          by_cases hcmp : szW s t1 d < szW s t2 d
          · have HR : Hid (bestI (fun i => totW s (ds.getD i ByteArray.empty) [d]) (j + 1) = j + 1) := HB.out.trans (if_pos hcmp)
            go_wp2
            refine wp_region_up 15 (by kernel_rfl) (by kernel_rfl) ?_
            simp only [List.take, List.drop]
            repeat (refine wpUp_step (fun K hK => ?_); go_simp; (try simp only [↓IntWalk.iteOmega]); first
              | (refine hK _ _ ?_; clear hK K)
              | (apply stepU_c
                 · intro wq hwq; (have hbq := bcell hwq; (repeat (first | refine fills_no (by rfl) ?_ | refine fills_yes (by rfl) (fun vq hvq => ?_))); simp only [List.filter_nil, fills]; unfold upAt; (try ((have hx2 := (hwq.cell (p := ⟨b, off + (j + 1), none⟩) hbl).trans hx; have hy2 := (hwq.cell (p := ⟨b, off + q, none⟩) hbl).trans hy; obtain ⟨hbz, s0, s1, s2⟩ := SetAt.cells (box_up hwq HSE.out)))); go_simp; (try go_bits); (try simp only [↓IntWalk.iteOmega]); (try (rw [dif_pos (by omega)]; go_simp; try go_bits)); first | exact upOut_value | (apply upOut_call; (go_at_call 96; with_reducible exact c1 _)) | (apply upOut_eq; (go_at_call 96; with_reducible exact c1 _)) | (apply upOut_call; (go_at_call 96; with_reducible exact c2 _)) | (apply upOut_eq; (go_at_call 96; with_reducible exact c2 _)))
                 go_simp; refine hK _ _ ?_; clear hK K))
            refine wpUp_nil (fun wq hwq => ?_)
            simp only [fills]
            go_wp2
            go_roundw
            case rel => exact ⟨j + 1, by go_num, by omega, by (rw [HR.out]; try go_num), box_up hwq HSE.out, by (repeat (first | with_reducible exact Up.refl _ | with_reducible assumption | with_reducible refine Up.set ?_ (by first | exact Nat.le_refl _ | (simp only []; omega) | (simp; omega)) _ | with_reducible refine Up.alloc ?_ _ | with_reducible refine Up.drew ?_ | refine Up.trans ?_ (by with_reducible assumption)))⟩
            case measure => simp [intOf]; omega
          · have HR : Hid (bestI (fun i => totW s (ds.getD i ByteArray.empty) [d]) (j + 1) = q) := HB.out.trans (if_neg hcmp)
            go_wp2
            refine wp_region_up 15 (by kernel_rfl) (by kernel_rfl) ?_
            simp only [List.take, List.drop]
            repeat (refine wpUp_step (fun K hK => ?_); go_simp; (try simp only [↓IntWalk.iteOmega]); first
              | (refine hK _ _ ?_; clear hK K)
              | (apply stepU_c
                 · intro wq hwq; (have hbq := bcell hwq; (repeat (first | refine fills_no (by rfl) ?_ | refine fills_yes (by rfl) (fun vq hvq => ?_))); simp only [List.filter_nil, fills]; unfold upAt; (try ((have hx2 := (hwq.cell (p := ⟨b, off + (j + 1), none⟩) hbl).trans hx; have hy2 := (hwq.cell (p := ⟨b, off + q, none⟩) hbl).trans hy; obtain ⟨hbz, s0, s1, s2⟩ := SetAt.cells (box_up hwq HSE.out)))); go_simp; (try go_bits); (try simp only [↓IntWalk.iteOmega]); (try (rw [dif_pos (by omega)]; go_simp; try go_bits)); first | exact upOut_value | (apply upOut_call; (go_at_call 96; with_reducible exact c1 _)) | (apply upOut_eq; (go_at_call 96; with_reducible exact c1 _)) | (apply upOut_call; (go_at_call 96; with_reducible exact c2 _)) | (apply upOut_eq; (go_at_call 96; with_reducible exact c2 _)))
                 go_simp; refine hK _ _ ?_; clear hK K))
            refine wpUp_nil (fun wq hwq => ?_)
            simp only [fills]
            go_wp2
            go_roundw
            case rel => exact ⟨j + 1, by go_num, by omega, by (rw [HR.out]; try go_num), box_up hwq HSE.out, by (repeat (first | with_reducible exact Up.refl _ | with_reducible assumption | with_reducible refine Up.set ?_ (by first | exact Nat.le_refl _ | (simp only []; omega) | (simp; omega)) _ | with_reducible refine Up.alloc ?_ _ | with_reducible refine Up.drew ?_ | refine Up.trans ?_ (by with_reducible assumption)))⟩
            case measure => simp [intOf]; omega
        · have HJ : Hid (j = ds.length - 1) := by unfold Hid; omega
          go_wp2
          go_ret
          exact ⟨ret_int (by rw [← HJ.out]), hup⟩

end Go.Proofs.YtekbbnkkninolaaGreat

/- Walks of the program's allFit, bestOf, BestDict, BestSample. Conditions: the strings can be read and are no longer than 2^20 bytes. -/
namespace Go.Proofs.YtekbbnkkninolaaGreat
set_option linter.unusedVariables false
set_option linter.unusedSimpArgs false
open Go Go.RowKit

set_option maxRecDepth 100000 in
set_option maxHeartbeats 4000000 in
theorem allFitI_any (s : SetD) (l : List ByteArray) (v : Value) (w : World) (hli : -9223372036854775808 ≤ s.lit ∧ s.lit ≤ 9223372036854775807) (h : ArgS w v l) (hl : l.length ≤ 1048576) (hs : ∀ t ∈ l, t.size ≤ 1048576) :
    Calls Tryz.prog 92  #[setV s, v] w (Same (.bool (allFitB s l)) w) := by
  have hat := h
  obtain ⟨a, cap, rfl, hm, hms, -⟩ := h
  obtain ⟨o, li, mo⟩ := s
  simp only [setV] at *
  by_cases h0 : l.length < 1
  · have HN : Hid (allFitB ⟨o, li, mo⟩ l = false) := by
      unfold Hid allFitB; rw [decide_eq_false (by omega)]; rfl
    go_enter Tryz.func92, Tryz.ntmps92
    go_wp2
    go_ret
    refine ⟨ret_bool HN.out.symm, ?_⟩
    (repeat (first | with_reducible exact Up.refl _ | with_reducible assumption | with_reducible refine Up.set ?_ (by first | exact Nat.le_refl _ | (simp only []; omega) | (simp; omega)) _ | with_reducible refine Up.alloc ?_ _ | with_reducible refine Up.drew ?_ | refine Up.trans ?_ (by with_reducible assumption)))
  · by_cases h8 : 8 < l.length
    · have HN : Hid (allFitB ⟨o, li, mo⟩ l = false) := by
        unfold Hid allFitB; rw [decide_eq_false (show ¬ l.length ≤ 8 by omega), Bool.and_false]; rfl
      go_enter Tryz.func92, Tryz.ntmps92
      go_wp2
      go_ret
      refine ⟨ret_bool HN.out.symm, ?_⟩
      (repeat (first | with_reducible exact Up.refl _ | with_reducible assumption | with_reducible refine Up.set ?_ (by first | exact Nat.le_refl _ | (simp only []; omega) | (simp; omega)) _ | with_reducible refine Up.alloc ?_ _ | with_reducible refine Up.drew ?_ | refine Up.trans ?_ (by with_reducible assumption)))
    · go_enter Tryz.func92, Tryz.ntmps92
      go_wp2
      go_loopw [17] (fun i wr => RelFi ⟨o, li, mo⟩ l w i wr) (fun i _ => l.length - (intOf i).toNat)
      case atStart => exact ⟨0, rfl, Nat.zero_le _, fun q h1 h2 => absurd h2 (Nat.not_lt_zero _), (MapKept.heap_alloc w _).1, by (repeat (first | with_reducible exact Up.refl _ | with_reducible assumption | with_reducible refine Up.set ?_ (by first | exact Nat.le_refl _ | (simp only []; omega) | (simp; omega)) _ | with_reducible refine Up.alloc ?_ _ | with_reducible refine Up.drew ?_ | refine Up.trans ?_ (by with_reducible assumption)))⟩
      case round =>
        obtain ⟨j, rfl, hj, hall, hset, hup⟩ := hrel
        obtain ⟨hb0, s0, s1, s2⟩ := hset.cells
        have HA := Lib.hid hall
        have HSE := Lib.hid hset
        clear hall hset
        by_cases hlt : j < l.length
        · obtain ⟨b, off, rfl, hbl, hx, -, hnc, hcm⟩ := (hat.up hup).at hlt
          have hsj := hs _ (List.getElem_mem hlt)
          have cF := fun wx => fitsI_any ⟨o, li, mo⟩ l[j] wx hli (by omega)
          unfold maxLen at hcm
          cases hf : fitsB ⟨o, li, mo⟩ (l[j]).data.toList
          · rw [hf] at cF
            have HN : Hid (allFitB ⟨o, li, mo⟩ l = false) := allFit_no hlt hf
            clear hf
            generalize l[j] = t at *
            simp only [setV] at cF
            go_wp2_with ((go_at_call 30; (with_reducible refine (cF _).mono ?_); rintro e w3 ⟨rfl, U3⟩; have B3 := bcell U3; have Z3 := U3.size; (try simp at Z3); (try rw [Nat.add_one_le_iff] at Z3)))
            go_ret
            refine ⟨ret_bool HN.out.symm, ?_⟩
            (repeat (first | with_reducible exact Up.refl _ | with_reducible assumption | with_reducible refine Up.set ?_ (by first | exact Nat.le_refl _ | (simp only []; omega) | (simp; omega)) _ | with_reducible refine Up.alloc ?_ _ | with_reducible refine Up.drew ?_ | refine Up.trans ?_ (by with_reducible assumption)))
          · rw [hf] at cF
            have HN : Hid (∀ q (h : q < l.length), q < j + 1 → fitsB ⟨o, li, mo⟩ (l[q]).data.toList = true) := fun q h1 h2 => by
              rcases Nat.lt_or_ge q j with h3 | h3
              · exact HA.out q h1 h3
              · have : q = j := by omega
                subst this; exact hf
            clear hf
            generalize l[j] = t at *
            simp only [setV] at cF
            go_wp2_with ((go_at_call 30; (with_reducible refine (cF _).mono ?_); rintro e w3 ⟨rfl, U3⟩; have B3 := bcell U3; have Z3 := U3.size; (try simp at Z3); (try rw [Nat.add_one_le_iff] at Z3)))
            go_roundw
            case rel => exact ⟨j + 1, by go_num, by omega, HN.out, box_up U3 HSE.out, by (repeat (first | with_reducible exact Up.refl _ | with_reducible assumption | with_reducible refine Up.set ?_ (by first | exact Nat.le_refl _ | (simp only []; omega) | (simp; omega)) _ | with_reducible refine Up.alloc ?_ _ | with_reducible refine Up.drew ?_ | refine Up.trans ?_ (by with_reducible assumption)))⟩
            case measure => simp [intOf]; omega
        · have e : j = l.length := by omega
          subst e
          have HN : Hid (allFitB ⟨o, li, mo⟩ l = true) := allFit_iff.2 ⟨by omega, by omega, fun t ht => by
            obtain ⟨q, hq, rfl⟩ := List.mem_iff_getElem.1 ht
            exact HA.out q hq hq⟩
          go_wp2
          go_ret
          refine ⟨ret_bool HN.out.symm, ?_⟩
          (repeat (first | with_reducible exact Up.refl _ | with_reducible assumption | with_reducible refine Up.set ?_ (by first | exact Nat.le_refl _ | (simp only []; omega) | (simp; omega)) _ | with_reducible refine Up.alloc ?_ _ | with_reducible refine Up.drew ?_ | refine Up.trans ?_ (by with_reducible assumption)))

theorem szW_fit {s : SetD} {dict d : ByteArray} (h1 : fitsB s dict.data.toList = true) (h2 : fitsB s d.data.toList = true) : compO (learnK (startK s) dict.data.toList) d.data.toList = some (compL (learnK (startK s) dict.data.toList) d.data.toList) ∧ szW s dict d = (compL (learnK (startK s) dict.data.toList) d.data.toList).length := by
  have h3 : compO (learnK (startK s) dict.data.toList) d.data.toList = some (compL (learnK (startK s) dict.data.toList) d.data.toList) := by
    unfold compO
    rw [if_pos (show fitsB (learnK (startK s) dict.data.toList).set d.data.toList = true from h2)]
  refine ⟨h3, ?_⟩
  unfold szW compW
  rw [if_pos h1, h3]; rfl
/-- The outer loop of bestOf; the inner one. -/
def RelBo (f : Nat → Nat) (n : Nat) (s : SetD) (w : World) (b z i : Value) (wr : World) : Prop := ∃ j : Nat, i = .int .i64 j ∧ j ≤ n ∧ ((j = 0 ∧ b = .int .i64 (-1) ∧ z = .int .i64 0) ∨ ∃ q : Nat, j = q + 1 ∧ b = .int .i64 (bestI f q : Nat) ∧ z = .int .i64 (f (bestI f q) : Nat)) ∧ SetAt w.heap.size s.ord s.lit s.most wr ∧ Up w wr
def RelBi (s : SetD) (dict : ByteArray) (ts : List ByteArray) (kk : KnD) (vk : Value) (w1 : World) (z a i : Value) (wr : World) : Prop := ∃ j : Nat, i = .int .i64 j ∧ j ≤ ts.length ∧ z = .int .i64 ((((ts.take j).map (szW s dict)).sum : Nat) : Int) ∧ a = .bool true ∧ KnAt w1.heap.size kk vk wr ∧ Up w1 wr

set_option maxRecDepth 100000 in
set_option maxHeartbeats 8000000 in
theorem bestOf_any (s : SetD) (ds ts : List ByteArray) (vd vt : Value) (w : World) (hli : -9223372036854775808 ≤ s.lit ∧ s.lit ≤ 9223372036854775807) (hd : ArgS w vd ds) (ht : ArgS w vt ts) (f1 : ∀ x ∈ ds, fitsB s x.data.toList = true) (f2 : ∀ x ∈ ts, fitsB s x.data.toList = true) (h1 : 1 ≤ ds.length) (h8 : ds.length ≤ 8) (h8' : ts.length ≤ 8)
    (hsd : ∀ t ∈ ds, t.size ≤ 1048576) (hst : ∀ t ∈ ts, t.size ≤ 1048576) :
    Calls Tryz.prog 93  #[setV s, vd, vt] w (Same (.int .i64 (bestI (fun i => totW s (ds.getD i ByteArray.empty) ts) (ds.length - 1) : Nat)) w) := by
  have hdt := hd
  have htt := ht
  obtain ⟨a, cap, rfl, hm, hms, -⟩ := hd
  obtain ⟨at', cat, rfl, hmt, hmst, -⟩ := ht
  have HF1 := Lib.hid f1
  have HF2 := Lib.hid f2
  clear f1 f2
  obtain ⟨F, HFD⟩ : ∃ F : Nat → Nat, Hid (F = fun i => totW s (ds.getD i ByteArray.empty) ts) := ⟨_, rfl⟩
  rw [← HFD.out]
  simp only [setV] at *
  go_enter Tryz.func93, Tryz.ntmps93
  go_wp2
  go_loopw [7, 8, 21] (fun b z i wr => RelBo F ds.length s w b z i wr) (fun _ _ i _ => ds.length - (intOf i).toNat)
  case atStart => exact ⟨0, rfl, Nat.zero_le _, .inl ⟨rfl, rfl, rfl⟩, (MapKept.heap_alloc w _).1, by (repeat (first | with_reducible exact Up.refl _ | with_reducible assumption | with_reducible refine Up.set ?_ (by first | exact Nat.le_refl _ | (simp only []; omega) | (simp; omega)) _ | with_reducible refine Up.alloc ?_ _ | with_reducible refine Up.drew ?_ | refine Up.trans ?_ (by with_reducible assumption)))⟩
  case round =>
    obtain ⟨j, rfl, hj, hbz, hset, hup⟩ := hrel
    obtain ⟨hb0, s0, s1, s2⟩ := hset.cells
    have HSE := Lib.hid hset
    have HBZ := Lib.hid hbz
    clear hset hbz
    by_cases hlt : j < ds.length
    · obtain ⟨b, off, rfl, hbl, hx, -, hnc, hcm⟩ := (hdt.up hup).at hlt
      have hsj := hsd _ (List.getElem_mem hlt)
      have hfj := HF1.out _ (List.getElem_mem hlt)
      have cS := fun wx => startWI_any s ds[j] wx hli (by omega)
      rw [hfj] at cS
      simp only [if_true] at cS
      obtain ⟨g1, g2, g3⟩ := fitsB_lits hfj
      have hok : (learnK (startK s) (ds[j]).data.toList).Ok := learnK_ok (startK_ok g1) g3
      have cC := fun (wx : World) (v : Value) (d : ByteArray) (hr : RdP 0 wx v (learnK (startK s) (ds[j]'hlt).data.toList).ps) (hd : d.size ≤ 1073741824) => compI_any (learnK (startK s) (ds[j]).data.toList) v 0 d wx hok (fun _ => rfl) hr hd
      have HSZ : Hid (∀ d : ByteArray, fitsB s d.data.toList = true → compO (learnK (startK s) (ds[j]).data.toList) d.data.toList = some (compL (learnK (startK s) (ds[j]).data.toList) d.data.toList) ∧ szW s ds[j] d = (compL (learnK (startK s) (ds[j]).data.toList) d.data.toList).length) := fun d hd => szW_fit hfj hd
      have HFJ : Hid (F j = totW s ds[j] ts) := by unfold Hid; rw [HFD.out]; show totW s (ds.getD j ByteArray.empty) ts = _; rw [getD_lt hlt]
      have hFb : F j ≤ 80000 := by rw [HFJ.out]; have := sum_bd (szW s ds[j]) (szW_bd s ds[j]) ts; unfold totW; omega
      unfold maxLen at hcm
      clear g1 g2 g3 hok hfj
      generalize learnK (startK s) (ds[j]).data.toList = kk at *
      generalize ds[j] = dict at *
      simp only [setV, kV] at cS cC
      go_wp2_with (go_at_call 64; (with_reducible refine (cS _).mono ?_); rintro e w1 ⟨v1, rfl, ho1, U1⟩; obtain ⟨a1, c1, rfl⟩ := ownsRow_shape ho1; have HO1 := Lib.hid ho1; clear ho1)
      go_loopw [13, 14, 34] (fun z a i wr => RelBi s dict ts kk (.slice a1 kk.ps.length c1) w1 z a i wr) (fun _ _ i _ => ts.length - (intOf i).toNat)
      case atStart => exact ⟨0, rfl, Nat.zero_le _, rfl, rfl, (MapKept.heap_alloc w1 _).1, by (repeat (first | with_reducible exact Up.refl _ | with_reducible assumption | with_reducible refine Up.set ?_ (by first | exact Nat.le_refl _ | (simp only []; omega) | (simp; omega)) _ | with_reducible refine Up.alloc ?_ _ | with_reducible refine Up.drew ?_ | refine Up.trans ?_ (by with_reducible assumption)))⟩
      case round =>
        obtain ⟨n, rfl, hn, rfl, rfl, hkn, hup2⟩ := hrel
        obtain ⟨hk0, r0, r1, r2, r3, r4, r5⟩ := hkn.cells
        have HKN := Lib.hid hkn
        clear hkn
        have hsb := sum_bd (szW s dict) (szW_bd s dict) (ts.take n)
        rw [List.length_take] at hsb
        have hsb2 : ((ts.take n).map (szW s dict)).sum ≤ 80000 := by omega
        clear hsb
        by_cases hlt2 : n < ts.length
        · obtain ⟨b2, off2, rfl, hbl2, hx2, -, hnc2, hcm2⟩ := (htt.up ((hup.trans U1).trans hup2)).at hlt2
          have hsn := hst _ (List.getElem_mem hlt2)
          obtain ⟨z1, z2⟩ := HSZ.out _ (HF2.out _ (List.getElem_mem hlt2))
          have cC2 := fun wx hr => cC wx (.slice a1 kk.ps.length c1) ts[n] hr (by omega)
          rw [z1] at cC2
          have hz := szW_bd s dict ts[n]
          rw [z2] at hz
          have HS : Hid ((((ts.take (n + 1)).map (szW s dict)).sum : Nat) = ((ts.take n).map (szW s dict)).sum + (compL kk (ts[n]).data.toList).length) := by unfold Hid; rw [sum_take (szW s dict) hlt2, z2]
          unfold maxLen at hcm2
          clear z1 z2
          generalize compL kk (ts[n]).data.toList = cl at *
          generalize ts[n] = t at *
          have hcz := bs_size cl
          generalize ((ts.take n).map (szW s dict)).sum = q at *
          unfold optS at cC2
          simp only [Option.getD_some, Option.isSome_some] at cC2
          go_wp2_with (go_at_call 78; (with_reducible refine (cC2 _ (((RdP.of_own HO1.out).up hup2).low (Nat.zero_le _))).mono ?_); rintro e w3 ⟨rfl, U3⟩)
          go_roundw
          case rel => exact ⟨n + 1, by go_num, by omega, by (rw [HS.out]; try go_num), rfl, box_up U3 HKN.out, by (repeat (first | with_reducible exact Up.refl _ | with_reducible assumption | with_reducible refine Up.set ?_ (by first | exact Nat.le_refl _ | (simp only []; omega) | (simp; omega)) _ | with_reducible refine Up.alloc ?_ _ | with_reducible refine Up.drew ?_ | refine Up.trans ?_ (by with_reducible assumption)))⟩
          case measure => simp [intOf]; omega
        · have e : n = ts.length := by omega
          subst e
          have HT : Hid (((ts.take ts.length).map (szW s dict)).sum = F j) := by unfold Hid; rw [HFJ.out]; unfold totW; rw [List.take_length]
          rw [HT.out] at hsb2 ⊢
          have hUU : Up w wr := by (repeat (first | with_reducible exact Up.refl _ | with_reducible assumption | with_reducible refine Up.set ?_ (by first | exact Nat.le_refl _ | (simp only []; omega) | (simp; omega)) _ | with_reducible refine Up.alloc ?_ _ | with_reducible refine Up.drew ?_ | refine Up.trans ?_ (by with_reducible assumption)))
          have HSE2 := Lib.hid (box_up (U1.trans hup2) HSE.out)
          clear hup2 U1 cC HKN HT
          rcases HBZ.out with ⟨rfl, rfl, rfl⟩ | ⟨q, rfl, rfl, rfl⟩
          · go_wp2
            go_roundw
            case rel => exact ⟨1, by go_num, by omega, .inr ⟨0, rfl, rfl, rfl⟩, HSE2.out, hUU⟩
            case measure => simp [intOf]; omega
          · have hbn : ¬ ((bestI F q : Nat) : Int) < 0 := by omega
            by_cases hc : F (q + 1) < F (bestI F q)
            · have HB : Hid (bestI F (q + 1) = q + 1) := if_pos hc
              go_wp2
              go_roundw
              case rel => exact ⟨q + 2, by go_num, by omega, .inr ⟨q + 1, rfl, by (rw [HB.out]; try go_num), by (rw [HB.out])⟩, HSE2.out, hUU⟩
              case measure => simp [intOf]; omega
            · have HB : Hid (bestI F (q + 1) = bestI F q) := if_neg hc
              go_wp2
              go_roundw
              case rel => exact ⟨q + 2, by go_num, by omega, .inr ⟨q + 1, rfl, by (rw [HB.out]), by (rw [HB.out])⟩, HSE2.out, hUU⟩
              case measure => simp [intOf]; omega
    · have e : j = ds.length := by omega
      rcases HBZ.out with ⟨hj0, -, -⟩ | ⟨q, hq, rfl, rfl⟩
      · omega
      · have HQ : Hid (q = ds.length - 1) := by unfold Hid; omega
        clear hq e
        go_wp2
        go_ret
        exact ⟨ret_int (by rw [← HQ.out]), hup⟩

end Go.Proofs.YtekbbnkkninolaaGreat

/- Walks of OpenStream, the program's and the reference's. Conditions: the strings can be read and are no longer than 2^20 bytes. -/
namespace Go.Proofs.YtekbbnkkninolaaGreat
set_option linter.unusedVariables false
set_option linter.unusedSimpArgs false
open Go Go.RowKit

/-- What opening a stream gives: the data and the dictionary's index. -/
def tryO (R : DecR) (n i : Nat) : Option (List UInt8 × Nat) := if R.fin = 0 ∧ R.used = n then some (R.data, i) else none
def openN (s : SetD) (st : ByteArray) : List ByteArray → Nat → Option (List UInt8 × Nat)
  | [], _ => none
  | d :: l, i => if sumOf d = numAt st 0 then tryO (decW s d.data.toList (st.extract 2 st.size).data.toList) (st.size - 2) i else openN s st l (i + 1)
def openO (s : SetD) (ds : List ByteArray) (st : ByteArray) : Option (List UInt8 × Nat) := if allFitB s ds && decide (2 ≤ st.size) then openN s st ds 0 else none
def openV : Option (List UInt8 × Nat) → Value
  | some (d, i) => .tuple #[.string (bs d), .int .i64 i, .bool true]
  | none => .tuple #[.string ByteArray.empty, .int .i64 (-1), .bool false]
theorem openN_hit {s : SetD} {st : ByteArray} {ds : List ByteArray} {j : Nat} (h : j < ds.length) (hc : sumOf ds[j] = numAt st 0) : openN s st (ds.drop j) j = tryO (decW s (ds[j]).data.toList (st.extract 2 st.size).data.toList) (st.size - 2) j := by
  rw [List.drop_eq_getElem_cons h, openN, if_pos hc]
theorem openN_next {s : SetD} {st : ByteArray} {ds : List ByteArray} {j : Nat} (h : j < ds.length) (hc : ¬ sumOf ds[j] = numAt st 0) : openN s st (ds.drop j) j = openN s st (ds.drop (j + 1)) (j + 1) := by
  rw [List.drop_eq_getElem_cons h, openN, if_neg hc]
def RelOs (T : Option (List UInt8 × Nat)) (s : SetD) (st : ByteArray) (ds : List ByteArray) (w : World) (i : Value) (wr : World) : Prop := ∃ j : Nat, i = .int .i64 j ∧ j ≤ ds.length ∧ openN s st (ds.drop j) j = T ∧ SetAt w.heap.size s.ord s.lit s.most wr ∧ Up w wr
theorem ext_size2 (st : ByteArray) (h : 2 ≤ st.size) : (st.extract 2 st.size).size = st.size - 2 := by simp

end Go.Proofs.YtekbbnkkninolaaGreat

/- Plain: what an opened stream is. Conditions: as each says. -/
namespace Go.Proofs.YtekbbnkkninolaaGreat
set_option linter.unusedVariables false
set_option linter.unusedSimpArgs false
open Go Go.RowKit

/-- The first dictionary of a checksum is tried. -/
theorem openN_first {s : SetD} {st : ByteArray} {ds : List ByteArray} {f : Nat} (hf : f < ds.length) (hs : sumOf ds[f] = numAt st 0) (hn : ∀ q (h : q < ds.length), q < f → sumOf ds[q] ≠ numAt st 0) : ∀ m j, j + m = f → openN s st (ds.drop j) j = tryO (decW s (ds[f]).data.toList (st.extract 2 st.size).data.toList) (st.size - 2) f
  | 0, j, h => by
    have e : j = f := by omega
    subst e
    exact openN_hit hf hs
  | m + 1, j, h => by
    rw [openN_next (by omega) (hn j (by omega) (by omega))]
    exact openN_first hf hs hn m (j + 1) (by omega)
theorem openO_first {s : SetD} {st : ByteArray} {ds : List ByteArray} {f : Nat} (hk : allFitB s ds = true) (h2 : 2 ≤ st.size) (hf : f < ds.length) (hs : sumOf ds[f] = numAt st 0) (hn : ∀ q (h : q < ds.length), q < f → sumOf ds[q] ≠ numAt st 0) : openO s ds st = tryO (decW s (ds[f]).data.toList (st.extract 2 st.size).data.toList) (st.size - 2) f := by
  unfold openO
  rw [hk, decide_eq_true h2]
  have := openN_first (s := s) hf hs hn f 0 (by omega)
  rw [List.drop_zero] at this
  exact this

end Go.Proofs.YtekbbnkkninolaaGreat

/- Plain: what follows the end code of a stream does not matter for what is read. Conditions: as each says. -/
namespace Go.Proofs.YtekbbnkkninolaaGreat
set_option linter.unusedVariables false
set_option linter.unusedSimpArgs false
open Go Go.RowKit

theorem readN_ext {o : Int} {bits more : List UInt8} {sz ct : Nat} : ∀ (n m : Nat) (k : KnD) (p : Nat) (cs : List Int) (d : List UInt8), n ≤ m → (readN o bits sz ct n k p cs d).fin = 0 → readN o (bits ++ more) sz ct m k p cs d = readN o bits sz ct n k p cs d
  | 0, m, k, p, cs, d, _, h => by
    have h' : (1 : Int) = 0 := h
    omega
  | n + 1, m, k, p, cs, d, hm, h => by
    obtain ⟨m, rfl⟩ : ∃ q, m = q + 1 := ⟨m - 1, by omega⟩
    by_cases hp : bits.length < p + k.width
    · rw [readN_short hp] at h
      have h' : (1 : Int) = 0 := h
      omega
    · have hp' : ¬ (bits ++ more).length < p + k.width := by rw [List.length_append]; omega
      have hx : codeAt o (bits ++ more) p k.width = codeAt o bits p k.width := by
        unfold codeAt
        rw [List.drop_append_of_le_length (by omega), List.take_append_of_le_length (by rw [List.length_drop]; omega)]
      obtain ⟨x, hx1⟩ : ∃ x, codeAt o bits p k.width = x := ⟨_, rfl⟩
      have hx2 := hx.trans hx1
      by_cases h1 : x = (k.c : Int) + 1
      · rw [readN_end hx1 hp h1, readN_end hx2 hp' h1]
      · by_cases h2 : x = (k.c : Int)
        · by_cases h5 : 3100 ≤ ct + (cs.length + 1)
          · rw [readN_clearL hx1 hp h2 h5, readN_clearL hx2 hp' h2 h5]
          · rw [readN_clear hx1 hp h2 h5] at h ⊢
            rw [readN_clear hx2 hp' h2 h5]
            exact readN_ext n m _ _ _ _ (by omega) h
        · cases h3 : k.follows x
          · rw [readN_wrong hx1 hp h1 h2 h3, readN_wrong hx2 hp' h1 h2 h3]
          · by_cases h4 : 2000 < sz + d.length + (k.any x).length
            · rw [readN_long hx1 hp h1 h2 h3 h4, readN_long hx2 hp' h1 h2 h3 h4]
            · by_cases h5 : 3100 ≤ ct + (cs.length + 1)
              · rw [readN_wordL hx1 hp h1 h2 h3 h4 h5, readN_wordL hx2 hp' h1 h2 h3 h4 h5]
              · rw [readN_word hx1 hp h1 h2 h3 h4 h5] at h ⊢
                rw [readN_word hx2 hp' h1 h2 h3 h4 h5]
                exact readN_ext n m _ _ _ _ (by omega) h
theorem unpackL_app (o : Int) (s t : List UInt8) : unpackL o (s ++ t) = unpackL o s ++ unpackL o t := by simp [unpackL]
theorem dec_ext {k : KnD} {s t : List UInt8} (h0 : (decK k s).fin = 0) (h4 : (s ++ t).length ≤ 4000) : decK k (s ++ t) = decK k s := by
  have hs : s.length ≤ 4000 := by rw [List.length_append] at h4; omega
  unfold decK at h0 ⊢
  rw [if_pos hs] at h0 ⊢
  rw [if_pos h4]
  have hf : (readS k s).fin = 0 := h0
  have he : readS k (s ++ t) = readS k s := by
    unfold readS at hf ⊢
    rw [unpackL_app]
    exact readN_ext _ _ _ _ _ _ (by rw [List.length_append]; omega) hf
  rw [he]
  unfold usedS
  rw [if_neg (by rw [hf]; decide), if_neg (by rw [hf]; decide)]
theorem dec_fin4 {k : KnD} {s : List UInt8} (h0 : (decK k s).fin = 0) : s.length ≤ 4000 := by
  unfold decK at h0
  split at h0
  · assumption
  · exact absurd h0 (by decide)
/-- With bytes behind it a whole stream is not one. -/
theorem dec_more {k : KnD} {s t : List UInt8} (h0 : (decK k s).fin = 0) (h1 : (decK k s).used = s.length) (ht : t ≠ []) : ¬ ((decK k (s ++ t)).fin = 0 ∧ (decK k (s ++ t)).used = (s ++ t).length) := by
  rintro ⟨g0, g1⟩
  rw [dec_ext h0 (dec_fin4 g0), h1, List.length_append] at g1
  have := List.length_pos_iff.2 ht
  omega
/-- Without its last bytes a whole stream is not one. -/
theorem dec_less {k : KnD} {s t : List UInt8} (h0 : (decK k (s ++ t)).fin = 0) (h1 : (decK k (s ++ t)).used = (s ++ t).length) (ht : t ≠ []) : ¬ ((decK k s).fin = 0 ∧ (decK k s).used = s.length) :=
  fun ⟨g0, g1⟩ => dec_more g0 g1 ht ⟨h0, h1⟩

end Go.Proofs.YtekbbnkkninolaaGreat

/- Plain: a stream of data is no longer than 4000 bytes, and the data is read from it. Conditions: as each says. -/
namespace Go.Proofs.YtekbbnkkninolaaGreat
set_option linter.unusedVariables false
set_option linter.unusedSimpArgs false
open Go Go.RowKit

theorem compL_4000 {k : KnD} {d : List UInt8} (h : k.Ok) (hl : ∀ b ∈ d, b.toNat < k.c) (hd : d.length ≤ 2000) : (compL k d).length ≤ 4000 := by
  obtain ⟨g1, g2, g3, g4, g5⟩ := walk_greedy h hl hd
  have g6 := greedy_tight h hl hd
  have h9 := packC_len10 k.set.ord (greedy k d) (walkN k (greedy k d) [] []).ws (fun x hx => ⟨by have := (g4 x hx).1; omega, (g4 x hx).2⟩)
  unfold compL
  rw [packL_length]
  omega
theorem decW_comp {s : SetD} {dict d : List UInt8} (h1 : fitsB s dict = true) (h2 : fitsB s d = true) : (compL (learnK (startK s) dict) d).length ≤ 4000 ∧ decW s dict (compL (learnK (startK s) dict) d) = ⟨d, 0, (compL (learnK (startK s) dict) d).length⟩ := by
  obtain ⟨f1, f2, f3⟩ := fitsB_lits h1
  obtain ⟨f4, f5, f6⟩ := fitsB_lits h2
  have hok : (learnK (startK s) dict).Ok := learnK_ok (startK_ok f1) f3
  have h4 := compL_4000 hok (d := d) f6 f5
  refine ⟨h4, ?_⟩
  unfold decW
  rw [if_pos h1]
  exact dec_comp hok f6 f5 h4

end Go.Proofs.YtekbbnkkninolaaGreat

/- Walk of the program's OpenStream. Conditions: the strings can be read and are no longer than 2^20 bytes. -/
namespace Go.Proofs.YtekbbnkkninolaaGreat
set_option linter.unusedVariables false
set_option linter.unusedSimpArgs false
open Go Go.RowKit

set_option maxRecDepth 100000 in
set_option maxHeartbeats 8000000 in
theorem openI_any (s : SetD) (ds : List ByteArray) (v : Value) (st : ByteArray) (w : World) (hli : -9223372036854775808 ≤ s.lit ∧ s.lit ≤ 9223372036854775807) (h : ArgS w v ds) (hl : ds.length ≤ 1048576) (hs : ∀ t ∈ ds, t.size ≤ 1048576) (hst : st.size ≤ 1048576) :
    Calls Tryz.prog 41  #[setV s, v, .string st] w (Same (openV (openO s ds st)) w) := by
  have hat := h
  have cF := fun wx hr => allFitI_any s ds v wx hli hr hl hs
  have hrt := fun (wq : World) (hu : Up w wq) => h.up hu
  unfold openO
  cases h1 : allFitB s ds
  · rw [h1] at cF
    simp only [Bool.false_and, Bool.false_eq_true, if_false, openV]
    obtain ⟨a, cap, rfl, hm, hms, -⟩ := h
    clear h1
    simp only [setV] at *
    go_enter Tryz.func41, Tryz.ntmps41
    go_wp2_with ((go_at_call 92; (with_reducible refine (cF _ (hrt _ (by (repeat (first | with_reducible exact Up.refl _ | with_reducible assumption | with_reducible refine Up.set ?_ (by first | exact Nat.le_refl _ | (simp only []; omega) | (simp; omega)) _ | with_reducible refine Up.alloc ?_ _ | with_reducible refine Up.drew ?_ | refine Up.trans ?_ (by with_reducible assumption)))))).mono ?_); rintro e w1 ⟨rfl, U1⟩; have B1 := bcell U1; have Z1 := U1.size; (try simp at Z1); (try rw [Nat.add_one_le_iff] at Z1)))
    refine bodyPost_ret (v := .tuple #[.string ByteArray.empty, .int .i64 (-1), .bool false]) (by simp [results, Tryz.results41, go_sem]; try rfl) rfl ⟨rfl, ?_⟩
    (repeat (first | with_reducible exact Up.refl _ | with_reducible assumption | with_reducible refine Up.set ?_ (by first | exact Nat.le_refl _ | (simp only []; omega) | (simp; omega)) _ | with_reducible refine Up.alloc ?_ _ | with_reducible refine Up.drew ?_ | refine Up.trans ?_ (by with_reducible assumption)))
  · rw [h1] at cF
    by_cases h2 : 2 ≤ st.size
    case neg =>
      rw [decide_eq_false h2]
      simp only [Bool.and_false, Bool.false_eq_true, if_false, openV]
      obtain ⟨a, cap, rfl, hm, hms, -⟩ := h
      have h2' : (st.size : Int) < 2 := by omega
      clear h1 h2
      simp only [setV] at *
      go_enter Tryz.func41, Tryz.ntmps41
      go_wp2_with ((go_at_call 92; (with_reducible refine (cF _ (hrt _ (by (repeat (first | with_reducible exact Up.refl _ | with_reducible assumption | with_reducible refine Up.set ?_ (by first | exact Nat.le_refl _ | (simp only []; omega) | (simp; omega)) _ | with_reducible refine Up.alloc ?_ _ | with_reducible refine Up.drew ?_ | refine Up.trans ?_ (by with_reducible assumption)))))).mono ?_); rintro e w1 ⟨rfl, U1⟩; have B1 := bcell U1; have Z1 := U1.size; (try simp at Z1); (try rw [Nat.add_one_le_iff] at Z1)))
      refine bodyPost_ret (v := .tuple #[.string ByteArray.empty, .int .i64 (-1), .bool false]) (by simp [results, Tryz.results41, go_sem]; try rfl) rfl ⟨rfl, ?_⟩
      (repeat (first | with_reducible exact Up.refl _ | with_reducible assumption | with_reducible refine Up.set ?_ (by first | exact Nat.le_refl _ | (simp only []; omega) | (simp; omega)) _ | with_reducible refine Up.alloc ?_ _ | with_reducible refine Up.drew ?_ | refine Up.trans ?_ (by with_reducible assumption)))
    case pos =>
      rw [decide_eq_true h2]
      simp only [Bool.and_true, if_true]
      have cN : ∀ wx, Calls Tryz.prog 99  #[.string st, .int .i64 0] wx (Same (.int .i64 (numAt st 0)) wx) := fun wx => numberAt_at st 0 0 _ rfl rfl (by omega) (by omega) wx
      have hnb := numAt_bd st 0
      obtain ⟨T, HT⟩ : ∃ T, Hid (openN s st (ds.drop 0) 0 = T) := ⟨_, rfl⟩
      have HT0 : Hid (openN s st ds 0 = T) := HT.out
      rw [HT0.out]
      obtain ⟨a, cap, rfl, hm, hms, -⟩ := h
      have h2' : ¬ (st.size : Int) < 2 := by omega
      clear h1
      simp only [setV] at *
      go_enter Tryz.func41, Tryz.ntmps41
      go_wp2_with ((go_at_call 92; (with_reducible refine (cF _ (hrt _ (by (repeat (first | with_reducible exact Up.refl _ | with_reducible assumption | with_reducible refine Up.set ?_ (by first | exact Nat.le_refl _ | (simp only []; omega) | (simp; omega)) _ | with_reducible refine Up.alloc ?_ _ | with_reducible refine Up.drew ?_ | refine Up.trans ?_ (by with_reducible assumption)))))).mono ?_); rintro e w1 ⟨rfl, U1⟩; have B1 := bcell U1; have Z1 := U1.size; (try simp at Z1); (try rw [Nat.add_one_le_iff] at Z1)))
      have hSE : SetAt w.heap.size s.ord s.lit s.most w1 := box_up U1 (MapKept.heap_alloc w _).1
      have hUU : Up w w1 := by (repeat (first | with_reducible exact Up.refl _ | with_reducible assumption | with_reducible refine Up.set ?_ (by first | exact Nat.le_refl _ | (simp only []; omega) | (simp; omega)) _ | with_reducible refine Up.alloc ?_ _ | with_reducible refine Up.drew ?_ | refine Up.trans ?_ (by with_reducible assumption)))
      refine wp_region_up 6 (by kernel_rfl) (by kernel_rfl) ?_
      simp only [List.take, List.drop]
      repeat (refine wpUp_step (fun K hK => ?_); go_simp; (try simp only [↓IntWalk.iteOmega]); first
        | (refine hK _ _ ?_; clear hK K)
        | (apply stepU_c
           · intro wq hwq; (have hbq := bcell hwq; (repeat (first | refine fills_no (by rfl) ?_ | refine fills_yes (by rfl) (fun vq hvq => ?_))); simp only [List.filter_nil, fills]; unfold upAt; go_simp; (try go_bits); (try simp only [↓IntWalk.iteOmega]); (try (rw [dif_pos (by omega)]; go_simp; try go_bits)); first | exact upOut_value | (apply upOut_call; (go_at_call 99; with_reducible exact cN _)) | (apply upOut_eq; (go_at_call 99; with_reducible exact cN _)))
           go_simp; refine hK _ _ ?_; clear hK K))
      refine wpUp_nil (fun wq hwq => ?_)
      simp only [fills]
      have hSE2 := box_up hwq hSE
      have hUU2 := hUU.trans hwq
      clear hwq hSE hUU U1 B1 Z1
      go_wp2
      go_loopw [31] (fun i wr => RelOs T s st ds w i wr) (fun i _ => ds.length - (intOf i).toNat)
      case atStart => exact ⟨0, rfl, Nat.zero_le _, HT.out, hSE2, hUU2⟩
      case round =>
        clear hSE2 hUU2
        obtain ⟨j, rfl, hj, htot, hset, hup⟩ := hrel
        obtain ⟨hb0, s0, s1, s2⟩ := hset.cells
        have HSE := Lib.hid hset
        have HTO := Lib.hid htot
        clear hset htot
        by_cases hlt : j < ds.length
        · obtain ⟨b, off, rfl, hbl, hx, -, hnc, hcm⟩ := (hat.up hup).at hlt
          have hsj := hs _ (List.getElem_mem hlt)
          have cM := fun wx => sumI_any ds[j] wx (by omega)
          have hsb := sumOf_bd ds[j]
          have cD := fun wx => decWI_any s ds[j] (st.extract 2 st.size) wx hli (by omega) (by rw [ext_size2 st h2]; omega)
          obtain ⟨d1, d2, d3, d4⟩ := decW_bd s (ds[j]).data.toList (st.extract 2 st.size).data.toList
          have HH := fun hc => openN_hit (s := s) (st := st) hlt hc
          have HN := fun hc => openN_next (s := s) (st := st) hlt hc
          unfold maxLen at hcm
          have hes := ext_size2 st h2
          have HES := Lib.hid hes
          have d4' : (decW s (ds[j]).data.toList (st.extract 2 st.size).data.toList).used ≤ 1048576 := by
            have e : (st.extract 2 st.size).data.toList.length = (st.extract 2 st.size).size := by simp
            omega
          clear d4 hes
          generalize decW s (ds[j]).data.toList (st.extract 2 st.size).data.toList = R at *
          generalize sumOf ds[j] = so at *
          generalize ds[j] = dj at *
          obtain ⟨dd, ff, uu⟩ := R
          unfold decV at cD
          simp only [setV] at cD
          dsimp only at d1 d2 d3 d4'
          by_cases hc : so = numAt st 0
          · have he1 : (so == numAt st 0) = true := by simpa using hc
            have HT1 : Hid (tryO ⟨dd, ff, uu⟩ (st.size - 2) j = T) := by have := HTO.out; rw [HH hc] at this; exact this
            have cM2 := cM
            rw [hc] at cM2
            clear HH HN cM
            by_cases hf : ff = 0
            · by_cases hu : uu = st.size - 2
              · have HT2 : Hid (T = some (dd, j)) := by unfold Hid; rw [← HT1.out]; exact if_pos ⟨hf, hu⟩
                have hu9 : (uu : Int) = (st.size : Int) - 2 := by omega
                have hue : ((uu : Int) == (((st.extract 2 st.size).size : Nat) : Int)) = true := by rw [HES.out]; simp; omega
                subst hf
                clear hu hc
                go_wp2_with (first | (go_at_call 43; (with_reducible refine (cM2 _).mono ?_); rintro e w' ⟨rfl, rfl⟩) | (go_at_call 31; (with_reducible refine (cD _).mono ?_); rintro e w3 ⟨rfl, U3⟩; have B3 := bcell U3; have Z3 := U3.size; (try simp at Z3); (try rw [Nat.add_one_le_iff] at Z3)))
                refine bodyPost_ret (v := .tuple #[.string (bs dd), .int .i64 j, .bool true]) (by simp [results, Tryz.results41, go_sem]; try rfl) rfl ⟨by rw [HT2.out]; rfl, ?_⟩
                (repeat (first | with_reducible exact Up.refl _ | with_reducible assumption | with_reducible refine Up.set ?_ (by first | exact Nat.le_refl _ | (simp only []; omega) | (simp; omega)) _ | with_reducible refine Up.alloc ?_ _ | with_reducible refine Up.drew ?_ | refine Up.trans ?_ (by with_reducible assumption)))
              · have HT2 : Hid (T = none) := by unfold Hid; rw [← HT1.out]; exact if_neg (fun h => hu h.2)
                have hu9 : ¬ (uu : Int) = (st.size : Int) - 2 := by omega
                have hue : ((uu : Int) == (((st.extract 2 st.size).size : Nat) : Int)) = false := by rw [HES.out]; simp; omega
                subst hf
                clear hu hc
                go_wp2_with (first | (go_at_call 43; (with_reducible refine (cM2 _).mono ?_); rintro e w' ⟨rfl, rfl⟩) | (go_at_call 31; (with_reducible refine (cD _).mono ?_); rintro e w3 ⟨rfl, U3⟩; have B3 := bcell U3; have Z3 := U3.size; (try simp at Z3); (try rw [Nat.add_one_le_iff] at Z3)))
                refine bodyPost_ret (v := .tuple #[.string ByteArray.empty, .int .i64 (-1), .bool false]) (by simp [results, Tryz.results41, go_sem]; try rfl) rfl ⟨by rw [HT2.out]; rfl, ?_⟩
                (repeat (first | with_reducible exact Up.refl _ | with_reducible assumption | with_reducible refine Up.set ?_ (by first | exact Nat.le_refl _ | (simp only []; omega) | (simp; omega)) _ | with_reducible refine Up.alloc ?_ _ | with_reducible refine Up.drew ?_ | refine Up.trans ?_ (by with_reducible assumption)))
            · have HT2 : Hid (T = none) := by unfold Hid; rw [← HT1.out]; exact if_neg (fun h => hf h.1)
              clear hc
              go_wp2_with (first | (go_at_call 43; (with_reducible refine (cM2 _).mono ?_); rintro e w' ⟨rfl, rfl⟩) | (go_at_call 31; (with_reducible refine (cD _).mono ?_); rintro e w3 ⟨rfl, U3⟩; have B3 := bcell U3; have Z3 := U3.size; (try simp at Z3); (try rw [Nat.add_one_le_iff] at Z3)))
              refine bodyPost_ret (v := .tuple #[.string ByteArray.empty, .int .i64 (-1), .bool false]) (by simp [results, Tryz.results41, go_sem]; try rfl) rfl ⟨by rw [HT2.out]; rfl, ?_⟩
              (repeat (first | with_reducible exact Up.refl _ | with_reducible assumption | with_reducible refine Up.set ?_ (by first | exact Nat.le_refl _ | (simp only []; omega) | (simp; omega)) _ | with_reducible refine Up.alloc ?_ _ | with_reducible refine Up.drew ?_ | refine Up.trans ?_ (by with_reducible assumption)))
          · have he1 : (so == numAt st 0) = false := by simpa using hc
            have HT1 : Hid (openN s st (ds.drop (j + 1)) (j + 1) = T) := by have := HTO.out; rw [HN hc] at this; exact this
            clear HH HN
            go_wp2_with ((go_at_call 43; (with_reducible refine (cM _).mono ?_); rintro e w' ⟨rfl, rfl⟩))
            go_roundw
            case rel => exact ⟨j + 1, by go_num, by omega, HT1.out, HSE.out, hup⟩
            case measure => simp [intOf]; omega
        · have e : j = ds.length := by omega
          have HT2 : Hid (T = none) := by unfold Hid; rw [← HTO.out, e, List.drop_length]; rfl
          go_wp2
          refine bodyPost_ret (v := .tuple #[.string ByteArray.empty, .int .i64 (-1), .bool false]) (by simp [results, Tryz.results41, go_sem]; try rfl) rfl ⟨by rw [HT2.out]; rfl, ?_⟩
          (repeat (first | with_reducible exact Up.refl _ | with_reducible assumption | with_reducible refine Up.set ?_ (by first | exact Nat.le_refl _ | (simp only []; omega) | (simp; omega)) _ | with_reducible refine Up.alloc ?_ _ | with_reducible refine Up.drew ?_ | refine Up.trans ?_ (by with_reducible assumption)))

end Go.Proofs.YtekbbnkkninolaaGreat

/- Walks of the program's BestDict and BestSample, and of the reference's BestSample. Conditions: the strings can be read and are no longer than 2^20 bytes. -/
namespace Go.Proofs.YtekbbnkkninolaaGreat
set_option linter.unusedVariables false
set_option linter.unusedSimpArgs false
open Go Go.RowKit

theorem argS_one (w : World) (d : ByteArray) (hd : d.size ≤ maxLen) : ArgS (w.alloc (.cells #[.string d] 9)) (.slice (some ⟨w.heap.size, 0, none⟩) 1 1) [d] :=
  ⟨_, _, rfl, by unfold maxLen; simp, fun s hs => by simp at hs; rw [hs]; exact hd, fun _ => ⟨_, 0, rfl, Nat.le_refl _, by unfold maxLen; omega, by simp, fun i s hi => by
    have : i = 0 := by
      have := (List.getElem?_eq_some_iff.1 hi).1
      simp at this; exact this
    subst this
    simp at hi
    subst hi
    simp⟩⟩

set_option maxRecDepth 100000 in
set_option maxHeartbeats 4000000 in
theorem bestDictI_any (s : SetD) (ds : List ByteArray) (v : Value) (d : ByteArray) (w : World) (hli : -9223372036854775808 ≤ s.lit ∧ s.lit ≤ 9223372036854775807) (h : ArgS w v ds) (hl : ds.length ≤ 1048576) (hs : ∀ t ∈ ds, t.size ≤ 1048576) (hd : d.size ≤ 1048576) :
    Calls Tryz.prog 34  #[setV s, v, .string d] w (Same (.int .i64 (bestV s ds [d] (fitsB s d.data.toList))) w) := by
  have cF := fun wx hr => allFitI_any s ds v wx hli hr hl hs
  have cD := fun wx => fitsI_any s d wx hli (by omega)
  have hrt := fun (wq : World) (hu : Up w wq) => h.up hu
  unfold bestV
  cases h1 : allFitB s ds
  · rw [h1] at cF
    simp only [Bool.false_and, Bool.false_eq_true, if_false]
    obtain ⟨a, cap, rfl, hm, hms, -⟩ := h
    clear h1
    simp only [setV] at *
    go_enter Tryz.func34, Tryz.ntmps34
    go_wp2_with ((go_at_call 92; (with_reducible refine (cF _ (hrt _ (by (repeat (first | with_reducible exact Up.refl _ | with_reducible assumption | with_reducible refine Up.set ?_ (by first | exact Nat.le_refl _ | (simp only []; omega) | (simp; omega)) _ | with_reducible refine Up.alloc ?_ _ | with_reducible refine Up.drew ?_ | refine Up.trans ?_ (by with_reducible assumption)))))).mono ?_); rintro e w1 ⟨rfl, U1⟩; have B1 := bcell U1; have Z1 := U1.size; (try simp at Z1); (try rw [Nat.add_one_le_iff] at Z1)))
    go_ret
    refine ⟨rfl, ?_⟩
    (repeat (first | with_reducible exact Up.refl _ | with_reducible assumption | with_reducible refine Up.set ?_ (by first | exact Nat.le_refl _ | (simp only []; omega) | (simp; omega)) _ | with_reducible refine Up.alloc ?_ _ | with_reducible refine Up.drew ?_ | refine Up.trans ?_ (by with_reducible assumption)))
  · rw [h1] at cF
    cases h2 : fitsB s d.data.toList
    · rw [h2] at cD
      simp only [Bool.true_and, Bool.false_eq_true, if_false]
      obtain ⟨a, cap, rfl, hm, hms, -⟩ := h
      clear h1 h2
      simp only [setV] at *
      go_enter Tryz.func34, Tryz.ntmps34
      go_wp2_with (first | ((go_at_call 92; (with_reducible refine (cF _ (hrt _ (by (repeat (first | with_reducible exact Up.refl _ | with_reducible assumption | with_reducible refine Up.set ?_ (by first | exact Nat.le_refl _ | (simp only []; omega) | (simp; omega)) _ | with_reducible refine Up.alloc ?_ _ | with_reducible refine Up.drew ?_ | refine Up.trans ?_ (by with_reducible assumption)))))).mono ?_); rintro e w1 ⟨rfl, U1⟩; have B1 := bcell U1; have Z1 := U1.size; (try simp at Z1); (try rw [Nat.add_one_le_iff] at Z1)); (try have Y1a : w.heap.size < w1.heap.size := (by omega)); (try have Y1b : w.heap.size + 1 < w1.heap.size := (by omega)); (try have Y1c : w.heap.size + 1 + 1 < w1.heap.size := (by omega)); (try have Y1d : w.heap.size + 1 + 1 + 1 < w1.heap.size := (by omega)); skip) | (go_at_call 30; (with_reducible refine (cD _).mono ?_); rintro e w2 ⟨rfl, U2⟩; have B2 := bcell U2; have Z2 := U2.size; (try simp at Z2); (try rw [Nat.add_one_le_iff] at Z2)))
      go_ret
      refine ⟨rfl, ?_⟩
      (repeat (first | with_reducible exact Up.refl _ | with_reducible assumption | with_reducible refine Up.set ?_ (by first | exact Nat.le_refl _ | (simp only []; omega) | (simp; omega)) _ | with_reducible refine Up.alloc ?_ _ | with_reducible refine Up.drew ?_ | refine Up.trans ?_ (by with_reducible assumption)))
    · rw [h2] at cD
      simp only [Bool.true_and, if_true]
      obtain ⟨l1, l2, l3⟩ := allFit_iff.1 h1
      have cB := fun wx vt hr ht => bestOf_any s ds [d] v vt wx hli hr ht l3 (fun x hx => by simp at hx; rw [hx]; exact h2) l1 l2 (by simp) hs (fun x hx => by simp at hx; rw [hx]; exact hd)
      generalize bestI (fun i => totW s (ds.getD i ByteArray.empty) [d]) (ds.length - 1) = r at *
      obtain ⟨a, cap, rfl, hm, hms, -⟩ := h
      have hdm : d.size ≤ maxLen := by unfold maxLen; omega
      clear h1 h2 l3
      simp only [setV] at *
      go_enter Tryz.func34, Tryz.ntmps34
      go_wp2_with (first | ((go_at_call 92; (with_reducible refine (cF _ (hrt _ (by (repeat (first | with_reducible exact Up.refl _ | with_reducible assumption | with_reducible refine Up.set ?_ (by first | exact Nat.le_refl _ | (simp only []; omega) | (simp; omega)) _ | with_reducible refine Up.alloc ?_ _ | with_reducible refine Up.drew ?_ | refine Up.trans ?_ (by with_reducible assumption)))))).mono ?_); rintro e w1 ⟨rfl, U1⟩; have B1 := bcell U1; have Z1 := U1.size; (try simp at Z1); (try rw [Nat.add_one_le_iff] at Z1)); (try have Y1a : w.heap.size < w1.heap.size := (by omega)); (try have Y1b : w.heap.size + 1 < w1.heap.size := (by omega)); (try have Y1c : w.heap.size + 1 + 1 < w1.heap.size := (by omega)); (try have Y1d : w.heap.size + 1 + 1 + 1 < w1.heap.size := (by omega)); skip) | ((go_at_call 30; (with_reducible refine (cD _).mono ?_); rintro e w2 ⟨rfl, U2⟩; have B2 := bcell U2; have Z2 := U2.size; (try simp at Z2); (try rw [Nat.add_one_le_iff] at Z2)); (try have Y2a : w.heap.size < w2.heap.size := (by omega)); (try have Y2b : w.heap.size + 1 < w2.heap.size := (by omega)); (try have Y2c : w.heap.size + 1 + 1 < w2.heap.size := (by omega)); (try have Y2d : w.heap.size + 1 + 1 + 1 < w2.heap.size := (by omega)); skip) | (go_at_call 93; (with_reducible refine (cB _ _ (hrt _ (by (repeat (first | with_reducible exact Up.refl _ | with_reducible assumption | with_reducible refine Up.set ?_ (by first | exact Nat.le_refl _ | (simp only []; omega) | (simp; omega)) _ | with_reducible refine Up.alloc ?_ _ | with_reducible refine Up.drew ?_ | refine Up.trans ?_ (by with_reducible assumption))))) (argS_one _ d hdm)).mono ?_); rintro e w3 ⟨rfl, U3⟩; have B3 := bcell U3; have Z3 := U3.size; (try simp at Z3); (try rw [Nat.add_one_le_iff] at Z3)))
      go_ret
      refine ⟨rfl, ?_⟩
      (repeat (first | with_reducible exact Up.refl _ | with_reducible assumption | with_reducible refine Up.set ?_ (by first | exact Nat.le_refl _ | (simp only []; omega) | (simp; omega)) _ | with_reducible refine Up.alloc ?_ _ | with_reducible refine Up.drew ?_ | refine Up.trans ?_ (by with_reducible assumption)))

end Go.Proofs.YtekbbnkkninolaaGreat

/- Walks of the program's learn (with the length that counts), TrimDict and DictGain, and of the reference's DictGain. Conditions: what is known is valid and can be read; the strings are no longer than 2^30 bytes. -/
namespace Go.Proofs.YtekbbnkkninolaaGreat
set_option linter.unusedVariables false
set_option linter.unusedSimpArgs false
open Go Go.RowKit

theorem compW_some {s : SetD} {dict d : List UInt8} (h1 : fitsB s dict = true) (h2 : fitsB s d = true) : compW s dict d = some (compL (learnK (startK s) dict) d) := by
  unfold compW compO
  rw [if_pos h1, show (learnK (startK s) dict).set = s from rfl, if_pos h2]
end Go.Proofs.YtekbbnkkninolaaGreat

/- Walk of the program's makeBlocks. Conditions: what is known is valid and can be read; the data is no longer than 2000 bytes. -/
namespace Go.Proofs.YtekbbnkkninolaaGreat
set_option linter.unusedVariables false
set_option linter.unusedSimpArgs false
open Go Go.RowKit

/-- The blocks of data, all with the number 0. -/
def blksN (k : KnD) (size : Nat) : Nat → List UInt8 → List BlkD
  | 0, _ => []
  | n + 1, d => if d = [] then [] else mkB (compO k (d.take size)) (bs (d.take size)) :: blksN k size n (d.drop size)
abbrev ownB (w : World) (base : Nat) (v : Value) (l : List BlkD) : Prop := w.ownsRow base 61 4 v l.length (cellsB l)
structure MbAt (T : List BlkD) (k : KnD) (v : Value) (size : Nat) (L : List UInt8) (w : World) (f m : Nat) (acc : List BlkD) (vb : Value) (wr : World) : Prop where
  tot : acc ++ blksN k size m (L.drop f) = T
  len : (L.drop f).length ≤ m
  fl : f ≤ 4096
  al : acc.length ≤ f
  kn : KnAt w.heap.size k v wr
  own : ownB wr (w.heap.size + 1) vb acc
  up : Up w wr
end Go.Proofs.YtekbbnkkninolaaGreat

/- strings.Builder: copyCheck and WriteString at a builder that the call has made itself. Conditions: the bytes are fewer than 2^47. -/
namespace Go.Proofs.YtekbbnkkninolaaGreat
set_option linter.unusedVariables false
set_option linter.unusedSimpArgs false
open Go Go.RowKit

abbrev SbAt (B b : Nat) (p : Value) (l : List Value) (w : World) : Prop := Lib.BuilderAt 137 5 B b p l w
abbrev IsSb (B b : Nat) (l : List Value) (w : World) : Prop := Lib.IsBuilder 137 5 B b l w

end Go.Proofs.YtekbbnkkninolaaGreat

/- Walks of the program's makeContainer and MakeContainer. Conditions: as each says. -/
namespace Go.Proofs.YtekbbnkkninolaaGreat
set_option linter.unusedVariables false
set_option linter.unusedSimpArgs false
open Go Go.RowKit

theorem IsSb.up {B b : Nat} {l : List Value} {w w' : World} (h : IsSb B b l w) (hu : Up w w') : IsSb B b l w' := by
  have hs : ∀ p, SbAt B b p l w → SbAt B b p l w' := fun p ⟨h1, v, h2, h3, h4⟩ => ⟨h1, v, box_up hu h2, ownsRow_up h3 hu, h4⟩
  exact h.imp (hs _) (hs _)
theorem IsSb.lt {B b : Nat} {l : List Value} {w : World} (h : IsSb B b l w) : b < w.heap.size := h.elim (fun h => h.lt) (fun h => h.lt)
/-- The bytes of blocks with new numbers. -/
def numbT (i : Nat) : List BlkD → List UInt8
  | [] => []
  | b :: l => (textB i b.raw b.size b.body).data.toList ++ numbT (i + 1) l
/-- Blocks that may stand in a container. -/
structure McOk (l : List BlkD) : Prop where
  acc : accOk l
  sum : sizeSum l ≤ 2000
  form : ∀ (i : Nat) (h : i < l.length), formB (i : Nat) (l[i]).raw (l[i]).size (l[i]).body = true
/-- A row of blocks that can be read. -/
def RdB (w : World) (v : Value) (l : List BlkD) : Prop := ∃ a cap, v = .slice a l.length cap ∧ l.length ≤ cap ∧ cap ≤ maxLen ∧ (0 < l.length → ∃ g, a = some ⟨g, 0, none⟩ ∧ g < w.heap.size ∧ ∀ i (h : i < l.length), w.cell? ⟨g, i * 4, none⟩ = some (.int .i64 (l[i]).num) ∧ w.cell? ⟨g, i * 4 + 1, none⟩ = some (.bool (l[i]).raw) ∧ w.cell? ⟨g, i * 4 + 2, none⟩ = some (.int .i64 (l[i]).size) ∧ w.cell? ⟨g, i * 4 + 3, none⟩ = some (.string (l[i]).body))
theorem RdB.low {w w' : World} {v : Value} {l : List BlkD} (h : RdB w v l) (hb : Below w.heap.size w w') : RdB w' v l := by
  obtain ⟨a, cap, h1, h2, h3, h4⟩ := h
  refine ⟨a, cap, h1, h2, h3, fun hp => ?_⟩
  obtain ⟨g, e1, e2, e3⟩ := h4 hp
  refine ⟨g, e1, Nat.lt_of_lt_of_le e2 hb.size, fun i hi => ?_⟩
  obtain ⟨c0, c1, c2, c3⟩ := e3 i hi
  exact ⟨(hb.cell (p := ⟨g, _, none⟩) e2).trans c0, (hb.cell (p := ⟨g, _, none⟩) e2).trans c1, (hb.cell (p := ⟨g, _, none⟩) e2).trans c2, (hb.cell (p := ⟨g, _, none⟩) e2).trans c3⟩
theorem RdB.of_own {w : World} {base : Nat} {v : Value} {l : List BlkD} (h : ownB w base v l) : RdB w v l := by
  obtain ⟨a, cap, rfl, hm, hsome⟩ := ownsRow_any h
  by_cases hp : 0 < l.length
  · obtain ⟨g, rfl, hnc, hcm, hbg, hg, hcells⟩ := hsome hp
    refine ⟨_, cap, rfl, hnc, hcm, fun _ => ⟨g, rfl, hg, fun i hi => ?_⟩⟩
    exact blk_cells (w := w) hcells hi
  · have hcp := ownsRow_cap h
    exact ⟨_, cap, rfl, hcp.1, by unfold maxLen; exact hcp.2, fun h => absurd h hp⟩

structure McAt (T : List UInt8) (l : List BlkD) (w1 : World) (j : Nat) (acc : List UInt8) (wr : World) : Prop where
  le : j ≤ l.length
  tot : acc ++ numbT j (l.drop j) = T
  al : acc.length ≤ 74 * j
  sb : IsSb w1.heap.size w1.heap.size (Lib.byteCells acc) wr
  up : Up w1 wr
theorem compL_pos {k : KnD} {d : List UInt8} (h : k.Ok) (hl : ∀ b ∈ d, b.toNat < k.c) (hd : d.length ≤ 2000) : 1 ≤ (compL k d).length := by
  obtain ⟨g1, g2, g3, g4, g5⟩ := walk_greedy h hl hd
  unfold compL
  rw [packL_length]
  have hg : greedy k d = (k.c : Int) :: greedyN d.length k.cleared d := rfl
  generalize (walkN k (greedy k d) [] []).ws = ws at *
  cases ws with
  | nil => rw [hg] at g1; simp at g1
  | cons w ws =>
    have hw := g4 w (List.mem_cons_self ..)
    rw [hg]
    simp only [packC, List.length_append, codeL_length]
    omega
end Go.Proofs.YtekbbnkkninolaaGreat

