/- Texts joined into one: the walks and laws that the last text leans on. Conditions: as each says. -/
import Derived.Test.YtekogcjdaolcbaaGreatDoorSets
import Derived.Lib.ItoaLen
import Derived.Lib.ItoaMem
import Derived.Test.YtekogcjdaolcbaaGreatDoorMFnWriterTextLawI
import Derived.Test.YtekogcjdaolcbaaGreatDoorMFnWriterTextLawH
import Derived.Test.YtekogcjdaolcbaaGreatDoorBa

set_option linter.unusedVariables false
set_option linter.unusedSimpArgs false
/- The reference's decimal text of a number. Conditions: at most a million. -/
namespace Go.Proofs.YtekogcjdaolcbaaGreatDoor
open Go.RowKit
theorem dec_big {m : Nat} (h : ¬ m < 10) : Lib.decDigits m = Lib.decDigits (m / 10) ++ [UInt8.ofNat (48 + m % 10)] := by rw [Lib.decDigits, dif_neg h]
theorem dec_len {n : Nat} (h : n ≤ 1000000) : (Lib.decDigits n).length ≤ 20 := by rw [Lib.decDigits_length]; exact Lib.nDigits_le20 n (by omega)
theorem digit_num (m : Nat) (h : m < 10) : strOfNums [48 + (m : Int)] = bs [UInt8.ofNat (48 + m)] := by
  have : ([UInt8.ofNat (48 + m)].map fun b => (b.toNat : Int)) = [48 + (m : Int)] := by
    simp; omega
  rw [← this, bs_num]
def RelDc (n : Nat) (w : World) (v out : Value) (wr : World) : Prop := ∃ (m : Nat) (l : List UInt8), m ≤ n ∧ l.length ≤ 20 ∧ Lib.decDigits m ++ l = Lib.decDigits n ∧ v = .int .i64 m ∧ out = .string (bs l) ∧ Up w wr
set_option maxRecDepth 100000 in
set_option maxHeartbeats 1000000 in
theorem decN_any (n : Nat) (w : World) (hn : n ≤ 1000000) :
    Calls Tryz.prog 118  #[.int .i64 n] w (Same (.string (bs (Lib.decDigits n))) w) := by
  have hc := conv_new1
  have hlen := dec_len hn
  go_enter Tryz.func118, Tryz.ntmps118
  go_wp2
  go_loopw [0, 3] (fun v out wr => RelDc n w v out wr) (fun v _ _ => (intOf v).toNat)
  case atStart => exact ⟨n, [], Nat.le_refl _, by simp, by simp, rfl, rfl, Up.refl _⟩
  case round =>
    obtain ⟨m, l, hm, hl, he, rfl, rfl, hup⟩ := hrel
    have hcl := bs_size l
    have z1 := strOfNums_size
    have HE := Lib.hid he
    have HL := Lib.hid hlen
    clear he hlen
    by_cases hlt : 9 < m
    · have HD : Hid (strOfNums [48 + (m : Int) % 10] = bs [UInt8.ofNat (48 + m % 10)]) := by unfold Hid; rw [show (48 + (m : Int) % 10) = 48 + ((m % 10 : Nat) : Int) by omega, digit_num _ (by omega)]
      have HC := Lib.hid (dec_big (m := m) (by omega))
      have HN : Hid (Lib.decDigits (m / 10) ++ (UInt8.ofNat (48 + m % 10) :: l) = Lib.decDigits n) := by
        have h1 := HE.out; rw [HC.out, List.append_assoc] at h1; exact h1
      have HZ : Hid (l.length + 1 ≤ 20) := by
        have h1 := congrArg List.length HN.out
        have h2 := HL.out
        simp only [List.length_append, List.length_cons] at h1
        show l.length + 1 ≤ 20
        omega
      clear HC HE
      go_wp2
      go_roundw
      case rel => exact ⟨m / 10, UInt8.ofNat (48 + m % 10) :: l, by omega, by have := HZ.out; simpa using this, HN.out, by go_num, by rw [HD.out, bs_app]; rfl, by (repeat (first | with_reducible exact Up.refl _ | with_reducible assumption | with_reducible refine Up.set ?_ (by first | exact Nat.le_refl _ | (simp only []; omega) | (simp; omega)) _ | with_reducible refine Up.alloc ?_ _ | with_reducible refine Up.drew ?_ | refine Up.trans ?_ (by with_reducible assumption)))⟩
      case measure => simp [intOf]; omega
    · have HD : Hid (strOfNums [48 + (m : Int)] = bs [UInt8.ofNat (48 + m)]) := by unfold Hid; rw [digit_num _ (by omega)]
      have HX : Hid (bs [UInt8.ofNat (48 + m)] ++ bs l = bs (Lib.decDigits n)) := by
        unfold Hid
        rw [bs_app, ← HE.out, Lib.decDigits_one (by omega)]
      clear HE
      go_wp2
      go_ret
      exact ⟨by rw [HD.out, HX.out]; rfl, by (repeat (first | with_reducible exact Up.refl _ | with_reducible assumption | with_reducible refine Up.set ?_ (by first | exact Nat.le_refl _ | (simp only []; omega) | (simp; omega)) _ | with_reducible refine Up.alloc ?_ _ | with_reducible refine Up.drew ?_ | refine Up.trans ?_ (by with_reducible assumption)))⟩
set_option maxRecDepth 100000 in
set_option maxHeartbeats 1000000 in
theorem dec_any (n : Int) (w : World) (h0 : -1000000 ≤ n) (h1 : n ≤ 1000000) :
    Calls Tryz.prog 118  #[.int .i64 n] w (Same (.string (bs (Lib.itoa n))) w) := by
  by_cases hn : 0 ≤ n
  · obtain ⟨m, rfl⟩ := Int.eq_ofNat_of_zero_le hn
    rw [show Lib.itoa ((m : Nat) : Int) = Lib.decDigits m from Lib.itoa_nonneg m]
    exact decN_any m w (by omega)
  · have hc := fun wx => decN_any n.natAbs wx (by omega)
    have he : -n = (n.natAbs : Int) := by omega
    have hl := dec_len (n := n.natAbs) (by omega)
    have hb := bs_size (Lib.decDigits n.natAbs)
    have HX : Hid ((⟨#[45]⟩ : ByteArray) ++ bs (Lib.decDigits n.natAbs) = bs (Lib.itoa n)) := by
      have e1 : Lib.itoa n = [45] ++ Lib.decDigits n.natAbs := by unfold Lib.itoa; rw [if_pos (by omega)]; rfl
      unfold Hid
      rw [e1, ← bs_app]; rfl
    generalize Lib.decDigits n.natAbs = D at *
    go_enter Tryz.func118, Tryz.ntmps118
    go_wp2_with (go_at_call 118; (try rw [he]); (with_reducible refine (hc _).mono ?_); rintro e w1 ⟨rfl, U1⟩)
    go_ret
    exact ⟨by rw [HX.out]; rfl, U1⟩
end Go.Proofs.YtekogcjdaolcbaaGreatDoor

/- FormatIndex of the reference. Conditions: the places can be read, at most 2^20. -/
namespace Go.Proofs.YtekogcjdaolcbaaGreatDoor
open Go Go.RowKit
theorem bs_nil : bs [] = ⟨#[]⟩ := rfl
set_option maxRecDepth 100000 in
set_option maxHeartbeats 1000000 in
theorem l3Some_any (l : List UInt8) (w : World) : Calls Tryz.prog 61  #[.string (bs l)] w (fun e w' => e = .returned (.string (bs (someL l))) ∧ w = w') := by
  by_cases h : l = []
  · subst h
    have hb : (bs []).toList.isEmpty = true := by rw [Lib.toList_data, bs_data]; rfl
    go_enter Tryz.func61, Tryz.ntmps61
    go_wp2
    go_ret
    exact ⟨rfl, rfl⟩
  · have e : Hid (someL l = l) := if_neg h
    have hb : (bs l).toList.isEmpty = false := by rw [Lib.toList_data, bs_data]; cases l with | nil => exact absurd rfl h | cons _ _ => rfl
    rw [e.out]
    go_enter Tryz.func61, Tryz.ntmps61
    go_wp2
    go_ret
    exact ⟨rfl, rfl⟩
end Go.Proofs.YtekogcjdaolcbaaGreatDoor

/- Slices of strings: what can be read, what has been made. Conditions: as each says. -/
namespace Go.Proofs.YtekogcjdaolcbaaGreatDoor
open Go Go.RowKit
theorem infoStr : (Tryz.prog.info? 9).map (fun i => (i.zero, i.size, i.bytes)) = some (some (.string ByteArray.empty), 1, 16) := by kernel_rfl
def cellsS (l : List ByteArray) : List Value := l.map Value.string
def ArgS (w : World) (v : Value) (l : List ByteArray) : Prop := ∃ a cap, v = .slice a l.length cap ∧ l.length ≤ maxLen ∧ (∀ s ∈ l, s.size ≤ maxLen) ∧ (0 < l.length → ∃ b off, a = some ⟨b, off, none⟩ ∧ l.length ≤ cap ∧ cap ≤ maxLen ∧ b < w.heap.size ∧ ∀ i s, l[i]? = some s → w.cell? ⟨b, off + i, none⟩ = some (.string s))
theorem ArgS.up {w w' : World} {v : Value} {l : List ByteArray} (h : ArgS w v l) (hu : Up w w') : ArgS w' v l := by
  obtain ⟨a, cap, h1, h2, h2', h3⟩ := h
  refine ⟨a, cap, h1, h2, h2', fun hp => ?_⟩
  obtain ⟨b, off, e1, e2, e3, e4, e5⟩ := h3 hp
  exact ⟨b, off, e1, e2, e3, Nat.lt_of_lt_of_le e4 hu.size, fun i p hi => (hu.cell (p := ⟨b, _, none⟩) e4).trans (e5 i p hi)⟩
def ownS (w : World) (base : Nat) (v : Value) (l : List ByteArray) : Prop := w.ownsRow base 9 1 v l.length (cellsS l)
theorem ArgS.of_own {w : World} {base : Nat} {v : Value} {l : List ByteArray} (h : ownS w base v l) (hs : ∀ s ∈ l, s.size ≤ maxLen) : ArgS w v l := by
  rcases ownsRow_read h with ⟨rfl, h2⟩ | ⟨g, cap, rfl, h1, h2, h3, h4, h5⟩
  · exact ⟨none, 0, by rw [h2], by rw [h2]; exact Nat.zero_le _, hs, fun h => by omega⟩
  · refine ⟨some ⟨g, 0, none⟩, cap, rfl, by omega, hs, fun _ => ⟨g, 0, rfl, h1, h2, h4, fun i x hi => ?_⟩⟩
    rw [Nat.zero_add]
    refine h5 _ _ ?_
    simp [cellsS, hi]
theorem ArgS.at {w : World} {a : Option Addr} {n c : Nat} {l : List ByteArray} (h : ArgS w (.slice a n c) l) {i : Nat} (hi : i < l.length) : ∃ b off, a = some ⟨b, off, none⟩ ∧ b < w.heap.size ∧ w.cell? ⟨b, off + i, none⟩ = some (.string l[i]) ∧ n = l.length ∧ n ≤ c ∧ c ≤ maxLen := by
  obtain ⟨a', c', e, h1, h2, h3⟩ := h
  cases e
  obtain ⟨b, off, e1, e2, e3, e4, e5⟩ := h3 (by omega)
  exact ⟨b, off, e1, e4, e5 i _ (List.getElem?_eq_getElem hi), rfl, e2, e3⟩
def midS (l : List ByteArray) (k : Nat) : List ByteArray := l.take k ++ List.replicate (l.length - k) ByteArray.empty
theorem midS_all (l : List ByteArray) : midS l l.length = l := by simp [midS]
theorem midS_zero (l : List ByteArray) : midS l 0 = List.replicate l.length ByteArray.empty := by simp [midS]
theorem midS_set (l : List ByteArray) (k : Nat) (h : k < l.length) : (cellsS (midS l k)).set k (.string l[k]) = cellsS (midS l (k + 1)) := by
  have e : List.replicate (l.length - k) ByteArray.empty = ByteArray.empty :: List.replicate (l.length - (k + 1)) ByteArray.empty := by
    rw [show l.length - k = (l.length - (k + 1)) + 1 by omega]; rfl
  rw [midS, midS, e, List.take_succ_eq_append_getElem h]
  unfold cellsS
  simp only [List.map_append, List.map_cons, List.map_nil, List.append_assoc, List.cons_append, List.nil_append]
  rw [List.set_append_right _ _ (by simp; omega)]
  simp [List.length_take, Nat.min_eq_left (Nat.le_of_lt h)]
theorem midS_at (l : List ByteArray) (k : Nat) (h : k < l.length) : (cellsS (midS l k))[k]? = some (.string ByteArray.empty) := by
  unfold cellsS midS
  rw [List.getElem?_map, List.getElem?_append_right (by simp; omega), List.getElem?_replicate, if_pos (by simp; omega)]
  rfl
theorem made_listS (n : Nat) : (madeCells #[Value.string ByteArray.empty] n).toList.take n = List.replicate n (Value.string ByteArray.empty) := by
  apply List.ext_getElem
  · simp [madeCells]
  · intro i h1 h2
    simp [madeCells, Nat.mod_one]
theorem made_strs (w : World) (n : Nat) (hn : n ≤ maxLen) : (w.alloc (.cells (madeCells #[.string ByteArray.empty] n) 9)).ownsRow w.heap.size 9 1 (.slice (some ⟨w.heap.size, 0, none⟩) n n) n (cellsS (List.replicate n ByteArray.empty)) := by
  refine ⟨by simp [cellsS], .inr ⟨w.heap.size, n, _, rfl, Nat.le_refl _, (MapKept.heap_alloc w _).1, Nat.le_refl _, hn, ?_, ?_⟩⟩
  · simp [madeCells]
  · rw [Nat.mul_one, made_listS]; simp [cellsS]
end Go.Proofs.YtekogcjdaolcbaaGreatDoor

/- Texts joined into one: Eqb, Law. Conditions: as each says. -/
/- Walks of the laws' helpers that take a setting over and compare blocks. Conditions: none. -/
namespace Go.Proofs.YtekogcjdaolcbaaGreatDoor
open Go Go.RowKit
end Go.Proofs.YtekogcjdaolcbaaGreatDoor
/- The end of every law's row: the call answers true and nothing that was there has turned. Conditions: those of post_law. -/
namespace Go.Proofs.YtekogcjdaolcbaaGreatDoor
open Go.ChangeShapes Go.WideShapes Go.ChangeAt Go.RowKit
theorem TryzlaidOut : laidOutB Tryz.prog = true := by kernel_rfl
theorem own : ownKnob Tryz.prog.godebug = none := by kernel_rfl
theorem trodAll_up {H : Type} {enc : TypeId × Value → H} {P : Program} (hl : laidOutB P = true) {W W' : World} (hb : Below W.heap.size W W') : ∀ (ts : List TypeId) (vs : List Value) (ds : List (DataW H)) (ps : List MemPlace),
    (∀ t ∈ ts, P.readableRec t = true ∧ t < P.types.size) → (∀ x ∈ ps, x.block < W.heap.size) → DataW.TrodAll enc P W 0 (fun _ => true) true ts vs ds ps → DataW.TrodAll enc P W' 0 (fun b => decide (b < W.heap.size)) true ts vs ds ps
  | [], [], [], _, _, _, h => h
  | t :: ts, v :: vs, d :: ds, ps, ht, hp, h => by
    obtain ⟨p, q, h1, h2, rfl⟩ := h
    refine ⟨p, q, Below.trod hl (ht t (List.mem_cons_self ..)).1 (ht t (List.mem_cons_self ..)).2 h1 hb fun x hx => hp x (List.mem_append_left _ hx), ?_, rfl⟩
    exact trodAll_up hl hb ts vs ds q (fun t h => ht t (List.mem_cons_of_mem _ h)) (fun x hx => hp x (List.mem_append_right _ hx)) h2
  | [], _ :: _, _, _, _, _, h => h.elim
  | _ :: _, [], _, _, _, _, h => h.elim
  | [], [], _ :: _, _, _, _, h => h.elim
  | _ :: _, _ :: _, [], _, _, _, h => h.elim
theorem post_law {H : Type} {enc : TypeId × Value → H} {P : Program} {f : Func} {s : ChangeSpec} {W W' : World} {args : Array Value} {ds gs : List (DataW H)} {before : List MemPlace} {tb : TypeId}
    (hl : laidOutB P = true) (hp : (f.params.all fun t => P.readableRec t && decide (t < P.types.size)) = true) (hrt : f.resultTypes = #[tb]) (htb : P.underlying tb = some .bool) (hvars : s.vars = [])
    (hW : DataW.Whole enc P f.params.toList s.vars false W args.toList ds gs before) (hs : ∀ ds' : List (DataW H), ds' = ds → (s.fn H ds').results = [.lit (.bool true)] ∧ (s.fn H ds').args = ds ∧ (s.fn H ds').vars = []) (hb : Up W W') :
    s.post enc P f false true false false W args (.bool true) W' := by
  have hlt := fun p hp => hW.lt (p := p) hp
  obtain ⟨p, q, hA, hV, rfl, hz, hn⟩ := id hW
  rw [hvars] at hV
  obtain ⟨rfl, rfl⟩ := trodVars_none hV
  obtain ⟨e1, e2, e3⟩ := hs (ds ++ []) (by simp)
  refine ⟨ds, [], p ++ [], [], p, [], hW, ?_, ?_, ?_, ?_, fun h => by cases h⟩
  · rw [e1, hrt]
    exact trodAll_mk1 (shut_bool htb true)
  · rw [e2]
    refine trodAll_up hl hb _ _ _ _ (fun t ht => ?_) (fun x hx => hlt x (by simpa using hx)) hA
    have := Array.all_eq_true_iff_forall_mem.1 hp t (by simpa using ht)
    simpa using this
  · rw [e3, hvars]
    rfl
  · exact hb.frame _
end Go.Proofs.YtekogcjdaolcbaaGreatDoor

