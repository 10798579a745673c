/- Texts joined into one: the walks and laws that the last text leans on. Conditions: as each says. -/
import Derived.Test.YtekogcjdaolcbaaGreatDoorMFnWriterResumeLawC
import Derived.Lib.AppendStr
import Derived.Test.YtekogcjdaolcbaaGreatDoorMFnWriterResumeLawA
import Derived.Test.YtekogcjdaolcbaaGreatDoorSets
import Derived.Test.YtekogcjdaolcbaaGreatDoorWord
import Derived.Test.YtekogcjdaolcbaaGreatDoorBa
import Derived.Test.YtekogcjdaolcbaaGreatDoorMFnWriterResumeLawB
import Derived.Test.YtekogcjdaolcbaaGreatDoorAfter

set_option linter.unusedVariables false
set_option linter.unusedSimpArgs false
/- Walk of the reference's l2Walk. Conditions: what is known is valid (KnD.Ok) and can be read; the codes can be read. -/
namespace Go.Proofs.YtekogcjdaolcbaaGreatDoor
open Go Go.RowKit
theorem conv_any {w : World} {base : Nat} {a : Option Addr} {n c : Nat} {l : List UInt8} (h : w.ownsRow base 5 1 (.slice a n c) n (cellsU l)) (hn : n = l.length) : (convert 22 9 (.slice a n c)).run Tryz.prog w = .ok (.string (bs l)) w := by
  rcases h.2 with ⟨h1, h2⟩ | ⟨g, cap, cur, h1, _⟩
  · cases h1
    have hl : l = [] := List.length_eq_zero_iff.1 hn.symm
    subst hl
    exact run_convert_bytes_nil (P := Tryz.prog) w 22 5 Tryz.underlying22 Tryz.underlying5 0 0 9 Tryz.underlying9
  · cases h1
    exact conv_row h hn
def RdI (lo : Nat) (w : World) (v : Value) (l : List Int) : Prop := ∃ a cap, v = .slice a l.length cap ∧ l.length ≤ cap ∧ cap ≤ maxLen ∧
  (0 < l.length → ∃ b off, a = some ⟨b, off, none⟩ ∧ lo ≤ b ∧ b < w.heap.size ∧ ∀ i x, l[i]? = some x → w.cell? ⟨b, off + i, none⟩ = some (.int .i64 x))
theorem RdI.up {lo : Nat} {w w' : World} {v : Value} {l : List Int} (h : RdI lo w v l) (hu : Up w w') : RdI lo w' v l := by
  obtain ⟨a, cap, h1, h2, h2', h3⟩ := h
  refine ⟨a, cap, h1, h2, h2', fun hp => ?_⟩
  obtain ⟨b, off, e1, e2, e4, e5⟩ := h3 hp
  exact ⟨b, off, e1, e2, Nat.lt_of_lt_of_le e4 hu.size, fun i p hi => (hu.cell (p := ⟨b, _, none⟩) e4).trans (e5 i p hi)⟩
theorem RdI.of_own {w : World} {base : Nat} {v : Value} {l : List Int} (h : ownI w base v l) : RdI base w v l := by
  rcases ownsRow_read h with ⟨rfl, h2⟩ | ⟨g, cap, rfl, h1, h2, h3, h4, h5⟩
  · exact ⟨none, 0, by rw [h2], by omega, by unfold maxLen; omega, fun h => by omega⟩
  · refine ⟨some ⟨g, 0, none⟩, cap, rfl, h1, h2, fun _ => ⟨g, 0, rfl, h3, h4, fun i x hi => ?_⟩⟩
    rw [Nat.zero_add]
    refine h5 _ _ ?_
    simp [cellsI, hi]
structure WkR where
  ws : List Int
  data : List UInt8
  ok : Bool
def walkN : KnD → List Int → List Int → List UInt8 → WkR
  | _, [], ws, d => ⟨ws, d, decide (d.length ≤ 2000)⟩
  | k, x :: xs, ws, d =>
    if x = (k.c : Int) + 1 then ⟨ws ++ [(k.width : Int)], d, decide (xs = [])⟩
    else if x = (k.c : Int) then walkN k.cleared xs (ws ++ [(k.width : Int)]) d
    else if k.follows x = false ∨ 2000 < d.length then ⟨ws ++ [(k.width : Int)], [], false⟩
    else walkN (k.after x) xs (ws ++ [(k.width : Int)]) (d ++ k.any x)
theorem walkN_end {k : KnD} {x : Int} {xs ws : List Int} {d : List UInt8} (h : x = (k.c : Int) + 1) : walkN k (x :: xs) ws d = ⟨ws ++ [(k.width : Int)], d, decide (xs = [])⟩ := by rw [walkN, if_pos h]
theorem walkN_clear {k : KnD} {x : Int} {xs ws : List Int} {d : List UInt8} (h : x = (k.c : Int)) : walkN k (x :: xs) ws d = walkN k.cleared xs (ws ++ [(k.width : Int)]) d := by rw [walkN, if_neg (by omega), if_pos h]
theorem walkN_bad {k : KnD} {x : Int} {xs ws : List Int} {d : List UInt8} (h1 : x ≠ (k.c : Int) + 1) (h2 : x ≠ (k.c : Int)) (h : k.follows x = false ∨ 2000 < d.length) : walkN k (x :: xs) ws d = ⟨ws ++ [(k.width : Int)], [], false⟩ := by rw [walkN, if_neg h1, if_neg h2, if_pos h]
theorem walkN_word {k : KnD} {x : Int} {xs ws : List Int} {d : List UInt8} (h1 : x ≠ (k.c : Int) + 1) (h2 : x ≠ (k.c : Int)) (h : k.follows x = true) (h3 : d.length ≤ 2000) : walkN k (x :: xs) ws d = walkN (k.after x) xs (ws ++ [(k.width : Int)]) (d ++ k.any x) := by
  rw [walkN, if_neg h1, if_neg h2, if_neg (by rw [h]; simp; omega)]
structure WkAt (T : WkR) (codes : List Int) (lo : Nat) (w : World) (k : KnD) (v : Value) (i : Nat) (ws : List Int) (d : List UInt8) (vw vd : Value) (wr : World) : Prop where
  le : i ≤ codes.length
  tot : walkN k (codes.drop i) ws d = T
  wl : ws.length = i
  dl : d.length ≤ 3024
  ok : k.Ok
  kn : KnAt w.heap.size k v wr
  pr : RdP lo w v k.ps ∨ ownPr wr (w.heap.size + 2) v k.ps
  own : ownI wr (w.heap.size + 2) vw ws
  dat : ownU wr (w.heap.size + 2) vd d
  res : KnAt (w.heap.size + 1) ⟨⟨0, 0, 0⟩, [], 0, 0⟩ (.slice none 0 0) wr
  up : Up w wr
theorem WkAt.rd {T : WkR} {codes : List Int} {lo : Nat} {w : World} {k : KnD} {v : Value} {i : Nat} {ws : List Int} {d : List UInt8} {vw vd : Value} {wr : World} (h : WkAt T codes lo w k v i ws d vw vd wr) : RdP 0 wr v k.ps := by
  rcases h.pr with h1 | h1
  · exact (h1.up h.up).low (Nat.zero_le _)
  · exact (RdP.of_own h1).low (Nat.zero_le _)
structure WkB (codes : List Int) (lo : Nat) (w : World) (k : KnD) (v : Value) (ws : List Int) (d : List UInt8) (vw vd : Value) (wr : World) : Prop where
  kn : KnAt w.heap.size k v wr
  pr : RdP lo w v k.ps ∨ ownPr wr (w.heap.size + 2) v k.ps
  own : ownI wr (w.heap.size + 2) vw ws
  dat : ownU wr (w.heap.size + 2) vd d
  res : KnAt (w.heap.size + 1) ⟨⟨0, 0, 0⟩, [], 0, 0⟩ (.slice none 0 0) wr
  up : Up w wr
theorem WkB.upd {codes : List Int} {lo : Nat} {w : World} {k : KnD} {v : Value} {ws : List Int} {d : List UInt8} {vw vd : Value} {wr w' : World} (h : WkB codes lo w k v ws d vw vd wr) (hu : Up wr w') : WkB codes lo w k v ws d vw vd w' :=
  ⟨h.kn.up hu, h.pr.imp id fun h => ownsRow_up h hu, ownsRow_up h.own hu, ownsRow_up h.dat hu, h.res.up hu, h.up.trans hu⟩
theorem WkB.rd {codes : List Int} {lo : Nat} {w : World} {k : KnD} {v : Value} {ws : List Int} {d : List UInt8} {vw vd : Value} {wr : World} (h : WkB codes lo w k v ws d vw vd wr) : RdP 0 wr v k.ps := by
  rcases h.pr with h1 | h1
  · exact (h1.up h.up).low (Nat.zero_le _)
  · exact (RdP.of_own h1).low (Nat.zero_le _)
theorem low_ne {w wr : World} {base : Nat} {e : TypeId} {size n : Nat} {v : Value} {xs : List Value} (h : wr.ownsRow base e size v n xs) {b : Nat} (hb : b < base) : some b ≠ v.ownBlock := fun e => by have := (h.lt _ e.symm).1; omega
theorem low_ne' {w wr : World} {base : Nat} {e : TypeId} {size n : Nat} {v : Value} {xs : List Value} (h : wr.ownsRow base e size v n xs) {b : Nat} (hb : b < base) : v.ownBlock = none ∨ v.ownBlock ≠ some b := by
  cases hv : v.ownBlock with
  | none => exact .inl rfl
  | some g => exact .inr fun e => by have := (h.lt g hv).1; cases e; omega
theorem WkB.bytes {codes : List Int} {lo : Nat} {w : World} {k : KnD} {v : Value} {ws : List Int} {d d' : List UInt8} {vw vd vd' : Value} {wr w' : World} (h : WkB codes lo w k v ws d vw vd wr) (hg : wr.grownBy w' vd.ownBlock) (hn : ownU w' (w.heap.size + 2) vd' d') : WkB codes lo w k v ws d' vw vd' w' :=
  ⟨h.kn.gr hg (low_ne (w := w) h.dat (by omega)), h.pr.imp id fun h1 => h1.kept hg (rows_ne h1 h.dat (by decide)), h.own.kept hg (rows_ne h.own h.dat (by decide)), hn, h.res.gr hg (low_ne (w := w) h.dat (by omega)), h.up.grown hg fun y hy => by have := (h.dat.lt y hy).1; omega⟩
theorem WkAt.b {T : WkR} {codes : List Int} {lo : Nat} {w : World} {k : KnD} {v : Value} {i : Nat} {ws : List Int} {d : List UInt8} {vw vd : Value} {wr : World} (h : WkAt T codes lo w k v i ws d vw vd wr) : WkB codes lo w k v ws d vw vd wr := ⟨h.kn, h.pr, h.own, h.dat, h.res, h.up⟩
end Go.Proofs.YtekogcjdaolcbaaGreatDoor

/- Walks of the reference's draws of settings and data. Conditions: the reader is one (Rdr), its place is bounded. -/
namespace Go.Proofs.YtekogcjdaolcbaaGreatDoor
open Go Go.RowKit
def isSet (v : Value) : Prop := ∃ s : SetD, v = setV s ∧ setOk s = true
set_option maxRecDepth 100000 in
set_option maxHeartbeats 4000000 in
theorem l1Some_any (rb : Nat) (B : Value) (w : World) (N : Nat) (h : Rdr rb B w N) (hN : N ≤ 1000000000) :
    Calls Tryz.prog 126  #[.pointer (some ⟨rb, 0, none⟩)] w (Drawn rb B 5 isSet w) := by
  have hlt := h.lt
  have HR := Lib.hid h
  have hne0 : ¬ w.heap.size = rb := by omega
  have hU := RdUp.refl rb B 0 w
  have e1 : w.heap.size < w.heap.size + 1 := by omega
  have e2 : w.heap.size < w.heap.size + 1 + 1 := by omega
  go_enter Tryz.func126, Tryz.ntmps126
  go_wp2_with (first | (go_at_call 85; ((with_reducible refine (num_at ([2, 3, 2, 1, 8, 5]) HR.out hU (by intro c hU; (repeat (first | with_reducible assumption | refine RdUp.ups ?_ (by with_reducible assumption) | with_reducible refine RdUp.set ?_ (by first | exact Nat.le_refl _ | (simp only []; omega) | (simp; omega)) _ | with_reducible refine RdUp.alloc ?_ _ | with_reducible refine RdUp.drew ?_ | with_reducible exact RdUp.of (Up.refl _)))) (by omega) (by first | rfl | (simp; done) | fail) (by first | rfl | (simp; done) | fail) (by first | rfl | (simp; done) | fail) (by simp) (by simp) (by first | rfl | (simp; done) | fail)).mono ?_); rintro e w' ⟨i, rfl, hi, hU, U⟩; have D := gcell U.1; have Z := U.1.size; (try simp at Z); (try have Y0 : w.heap.size < w'.heap.size := (by omega)); (try have Y1 : w.heap.size + 1 < w'.heap.size := (by omega)); (try have Y2 : w.heap.size + 1 + 1 < w'.heap.size := (by omega)); (try have X0 : w.heap.size < w'.heap.size + 1 := (by omega)); (try have X1 : w.heap.size + 1 < w'.heap.size + 1 := (by omega)); (try have X2 : w.heap.size + 1 + 1 < w'.heap.size + 1 := (by omega)); ((have hl1 : 1 ≤ i := (by simp at hi; omega)); (have hl2 : i ≤ 8 := (by simp at hi; omega)); clear hi))) | (go_at_call 31; ((with_reducible refine (pick_at HR.out hU (by intro c hU; (repeat (first | with_reducible assumption | refine RdUp.ups ?_ (by with_reducible assumption) | with_reducible refine RdUp.set ?_ (by first | exact Nat.le_refl _ | (simp only []; omega) | (simp; omega)) _ | with_reducible refine RdUp.alloc ?_ _ | with_reducible refine RdUp.drew ?_ | with_reducible exact RdUp.of (Up.refl _)))) (by omega)).mono ?_); rintro e w' ⟨i, rfl, hi0, hi1, hU, U⟩; have D := gcell U.1; have Z := U.1.size; (try simp at Z); (try have Y0 : w.heap.size < w'.heap.size := (by omega)); (try have Y1 : w.heap.size + 1 < w'.heap.size := (by omega)); (try have Y2 : w.heap.size + 1 + 1 < w'.heap.size := (by omega)); (try have X0 : w.heap.size < w'.heap.size + 1 := (by omega)); (try have X1 : w.heap.size + 1 < w'.heap.size + 1 := (by omega)); (try have X2 : w.heap.size + 1 + 1 < w'.heap.size + 1 := (by omega)))))
  all_goals
    have q0 : w'.cell? ⟨w.heap.size, 0, none⟩ = some (.int .i64 0) := by simp [go_sem, *]
    have q1 : w'.cell? ⟨w.heap.size, 1, none⟩ = some (.int .i64 0) := by simp [go_sem, *]
    have q2 : w'.cell? ⟨w.heap.size, 2, none⟩ = some (.int .i64 0) := by simp [go_sem, *]
    refine bodyPost_ret (v := _) (by simp [results, Tryz.results126, go_sem, q0, q1, q2]; rfl) rfl ?_
    refine ⟨_, rfl, ⟨⟨_, _, _⟩, rfl, ?_⟩, ?_⟩
    · simp [setOk, inB]; omega
    · exact RdUp.fin hU (by intro c hU; (repeat (first | with_reducible assumption | refine RdUp.ups ?_ (by with_reducible assumption) | with_reducible refine RdUp.set ?_ (by first | exact Nat.le_refl _ | (simp only []; omega) | (simp; omega)) _ | with_reducible refine RdUp.alloc ?_ _ | with_reducible refine RdUp.drew ?_ | with_reducible exact RdUp.of (Up.refl _)))) (by omega)
theorem make_u8 (n : Nat) (hn : n ≤ 1048576) (w : World) : (Instr.makeSlice 22 (.int .i64 0) (.int .i64 (n : Int))).run Tryz.prog w = .ok (.slice (some ⟨w.heap.size, 0, none⟩) 0 n) (w.alloc (.cells (madeCells #[.int .u8 0] n) 5)) := by
  obtain ⟨i0, hi0, hz0, hz1, hz2⟩ := info_parts infoByte
  have := run_make (P := Tryz.prog) w 22 5 i0 _ Tryz.underlying22 hi0 hz0 .i64 .i64 0 n (by omega) (by omega) (by rw [hz2]; omega) (by omega)
  rw [hz1] at this
  simpa [Value.cells] using this
theorem own_made0 {w : World} {base n : Nat} (hb : base ≤ w.heap.size) (hn : n ≤ maxLen) : ownU (w.alloc (.cells (madeCells #[.int .u8 0] n) 5)) base (.slice (some ⟨w.heap.size, 0, none⟩) 0 n) [] :=
  World.ownsRow_made w _ n hb hn (by simp [madeCells])
theorem own_rd {rb : Nat} {w w' : World} {base : Nat} {e : TypeId} {size n : Nat} {v : Value} {xs : List Value} (h : w.ownsRow base e size v n xs) (hb : rb < base) (hg : w.grownBy w' (some rb)) : w'.ownsRow base e size v n xs :=
  h.kept hg (low_ne' (w := w) h hb)
theorem ownU_snocR {w : World} {base : Nat} {v : Value} {l : List UInt8} {y : Int} (h : w.ownsRow base 5 1 v (l.length + 1) (cellsU l ++ [.int .u8 y])) (h0 : 0 ≤ y) (h1 : y < 256) : ownU w base v (l ++ [ub y]) := by
  have e : (l ++ [ub y]).length = l.length + 1 := by simp
  unfold ownU
  rw [e, cellsU_snoc, ub_nat h0 h1]
  exact h
theorem row_ge {w : World} {base : Nat} {e : TypeId} {size n : Nat} {v : Value} {xs : List Value} (h : w.ownsRow base e size v n xs) : ∀ k, v.ownBlock = some k → base ≤ k := fun k hk => (h.lt k hk).1
end Go.Proofs.YtekogcjdaolcbaaGreatDoor

/- Walks of the reference's draws of data and dictionaries. Conditions: the reader is one (Rdr), its place is bounded; the setting is valid. -/
namespace Go.Proofs.YtekogcjdaolcbaaGreatDoor
open Go Go.RowKit
def RelDa (rb : Nat) (B : Value) (n c : Nat) (w : World) (out i : Value) (wr : World) : Prop := ∃ (l : List UInt8) (k : Nat), i = .int .i64 k ∧ l.length + k ≤ n ∧ ownU wr (w.heap.size + 1) out l ∧ RdUp rb B (c + 3 * l.length) w wr
theorem own_at {w : World} {base : Nat} {v : Value} {l : List UInt8} (h : ownU w base v l) (hl : 0 < l.length) : ∃ g c, v = .slice (some ⟨g, 0, none⟩) l.length c ∧ base ≤ g ∧ g < w.heap.size ∧ ∀ i (hi : i < l.length), w.cell? ⟨g, i, none⟩ = some (.int .u8 l[i].toNat) := by
  rcases ownsRow_read h with ⟨rfl, h2⟩ | ⟨g, cap, rfl, h1, h2, h3, h4, h5⟩
  · omega
  · exact ⟨g, cap, rfl, h3, h4, fun i hi => h5 i _ (cellsU_get hi)⟩
theorem mod_bd (x p : Int) (h0 : 0 ≤ x) (h1 : 1 ≤ p) : 0 ≤ x % p ∧ x % p ≤ x := by
  refine ⟨Int.emod_nonneg _ (by omega), ?_⟩
  rcases Int.lt_or_le x p with h | h
  · rw [Int.emod_eq_of_lt h0 h]; exact Int.le_refl _
  · have := Int.emod_lt_of_pos x (by omega : 0 < p); omega
set_option maxRecDepth 100000 in
set_option maxHeartbeats 8000000 in
theorem l1Data_any (rb : Nat) (B : Value) (s : SetD) (n : Nat) (w : World) (N : Nat) (h : Rdr rb B w N) (hN : N ≤ 1000000000) (hn : n ≤ 1000) (hs : setOk s = true) :
    Calls Tryz.prog 30  #[.pointer (some ⟨rb, 0, none⟩), setV s, .int .i64 n] w (Drawn rb B 3010 (IsStr n) w) := by
  obtain ⟨i0, hib, hz0, hz1, hz2⟩ := info_parts infoByte
  have hmk := make_u8 n (by omega)
  have hlt := h.lt
  have HR := Lib.hid h
  have hne0 : ¬ w.heap.size = rb := by omega
  have hne1 : ¬ w.heap.size + 1 = rb := by omega
  have hU := RdUp.refl rb B 0 w
  have e1 : w.heap.size < w.heap.size + 1 := by omega
  have e2 : w.heap.size < w.heap.size + 1 + 1 := by omega
  have e3 : w.heap.size + 1 < w.heap.size + 1 + 1 := by omega
  have cK := fun wx => l1Clear_any s wx hs
  obtain ⟨hcb1, hcb2, -, -⟩ := clr_bd hs
  simp only [setV] at *
  clear hs
  have ho0 : ownU ((w.alloc (.cells #[.int .i64 s.ord, .int .i64 s.lit, .int .i64 s.most] 24)).alloc (.cells (madeCells #[.int .u8 0] n) 5)) (w.heap.size + 1) (.slice (some ⟨w.heap.size + 1, 0, none⟩) 0 n) [] := by
    have h0 := own_made0 (w := w.alloc (.cells #[.int .i64 s.ord, .int .i64 s.lit, .int .i64 s.most] 24)) (base := w.heap.size + 1) (n := n) (by simp) (by unfold maxLen; omega)
    rwa [size_alloc] at h0
  go_enter Tryz.func30, Tryz.ntmps30
  go_wp2_with ((go_at_call 86; (with_reducible refine (cK _).mono ?_); rintro e w1 ⟨rfl, U1⟩; have B1 := bcell U1; have Z1 := U1.size; (try simp at Z1); (try rw [Nat.add_one_le_iff] at Z1)))
  have ho1 := ownsRow_up ho0 U1
  have x0 : w.heap.size < w1.heap.size := by omega
  have x1 : w.heap.size < w1.heap.size + 1 := by omega
  go_wp2_with ((go_at_call 85; ((with_reducible refine (num_at ([2, 3, ((clr s : Nat) : Int), 1]) HR.out hU (by intro c hU; (repeat (first | with_reducible assumption | refine RdUp.ups ?_ (by with_reducible assumption) | with_reducible refine RdUp.set ?_ (by first | exact Nat.le_refl _ | (simp only []; omega) | (simp; omega)) _ | with_reducible refine RdUp.alloc ?_ _ | with_reducible refine RdUp.drew ?_ | with_reducible exact RdUp.of (Up.refl _)))) (by omega) (by first | rfl | (simp; done) | fail) (by first | rfl | (simp; done) | fail) (by first | rfl | (simp; done) | fail) (by simp) (by simp) (by first | rfl | (simp; done) | fail)).mono ?_); rintro e w' ⟨i, rfl, hi, hU, U⟩; have D := gcell U.1; have Z := U.1.size; (try simp at Z); (try have Y0 : w.heap.size < w'.heap.size := (by omega)); (try have Y1 : w.heap.size + 1 < w'.heap.size := (by omega)); (try have Y2 : w.heap.size + 1 + 1 < w'.heap.size := (by omega)); (try have X0 : w.heap.size < w'.heap.size + 1 := (by omega)); (try have X1 : w.heap.size + 1 < w'.heap.size + 1 := (by omega)); (try have X2 : w.heap.size + 1 + 1 < w'.heap.size + 1 := (by omega)); ((have hp1 : 1 ≤ i := (by simp at hi; omega)); (have hp2 : i ≤ 256 := (by simp at hi; omega)); clear hi))))
  have ho := own_rd (ho1.alloc _) (by omega) U.1
  refine (cK _).mono ?_
  rintro e w3 ⟨rfl, U3⟩
  have ho := ownsRow_up ho U3
  have hz3 := U3.size
  have hU := hU.ups U3
  clear D U Z Y0 X0 B1 Z1 U1 U3 ho1 ho0
  rcases Int.lt_or_le (clr s : Int) i with hle | hle
  · have hq1 : (1 : Int) ≤ (clr s : Int) := by omega
    have hq2 : (clr s : Int) ≤ 256 := by omega
    have hrb : rb < w.heap.size + 1 := by omega
    clear hcb1 hcb2
    generalize ((clr s : Nat) : Int) = part at *
    go_wp2_with (first | (go_at_call 31; ((with_reducible refine (pick_at (n := 7) HR.out hU (by intro c hU; (repeat (first | with_reducible assumption | refine RdUp.ups ?_ (by with_reducible assumption) | with_reducible refine RdUp.set ?_ (by first | exact Nat.le_refl _ | (simp only []; omega) | (simp; omega)) _ | with_reducible refine RdUp.alloc ?_ _ | with_reducible refine RdUp.drew ?_ | with_reducible exact RdUp.of (Up.refl _)))) (by omega)).mono ?_); rintro e w' ⟨per, rfl, per0, per1, hU, U⟩; have D := gcell U.1; have Z := U.1.size; (try simp at Z); (try have Y0 : w.heap.size < w'.heap.size := (by omega)); (try have Y1 : w.heap.size + 1 < w'.heap.size := (by omega)); (try have Y2 : w.heap.size + 1 + 1 < w'.heap.size := (by omega)); (try have X0 : w.heap.size < w'.heap.size + 1 := (by omega)); (try have X1 : w.heap.size + 1 < w'.heap.size + 1 := (by omega)); (try have X2 : w.heap.size + 1 + 1 < w'.heap.size + 1 := (by omega)); (have ho := own_rd ho hrb U.1))) | (go_at_call 31; ((with_reducible refine (pick_at (n := 4) HR.out hU (by intro c hU; (repeat (first | with_reducible assumption | refine RdUp.ups ?_ (by with_reducible assumption) | with_reducible refine RdUp.set ?_ (by first | exact Nat.le_refl _ | (simp only []; omega) | (simp; omega)) _ | with_reducible refine RdUp.alloc ?_ _ | with_reducible refine RdUp.drew ?_ | with_reducible exact RdUp.of (Up.refl _)))) (by omega)).mono ?_); rintro e w' ⟨mode, rfl, mode0, mode1, hU, U⟩; have D := gcell U.1; have Z := U.1.size; (try simp at Z); (try have Y0 : w.heap.size < w'.heap.size := (by omega)); (try have Y1 : w.heap.size + 1 < w'.heap.size := (by omega)); (try have Y2 : w.heap.size + 1 + 1 < w'.heap.size := (by omega)); (try have X0 : w.heap.size < w'.heap.size + 1 := (by omega)); (try have X1 : w.heap.size + 1 < w'.heap.size + 1 := (by omega)); (try have X2 : w.heap.size + 1 + 1 < w'.heap.size + 1 := (by omega)); (have ho := own_rd ho hrb U.1))) | (go_at_call 31; ((with_reducible refine (pick_at (n := (n : Int) + 1) HR.out hU (by intro c hU; (repeat (first | with_reducible assumption | refine RdUp.ups ?_ (by with_reducible assumption) | with_reducible refine RdUp.set ?_ (by first | exact Nat.le_refl _ | (simp only []; omega) | (simp; omega)) _ | with_reducible refine RdUp.alloc ?_ _ | with_reducible refine RdUp.drew ?_ | with_reducible exact RdUp.of (Up.refl _)))) (by omega)).mono ?_); rintro e w' ⟨kk, rfl, kk0, kk1, hU, U⟩; have D := gcell U.1; have Z := U.1.size; (try simp at Z); (try have Y0 : w.heap.size < w'.heap.size := (by omega)); (try have Y1 : w.heap.size + 1 < w'.heap.size := (by omega)); (try have Y2 : w.heap.size + 1 + 1 < w'.heap.size := (by omega)); (try have X0 : w.heap.size < w'.heap.size + 1 := (by omega)); (try have X1 : w.heap.size + 1 < w'.heap.size + 1 := (by omega)); (try have X2 : w.heap.size + 1 + 1 < w'.heap.size + 1 := (by omega)); (have ho := own_rd ho hrb U.1))))
    obtain ⟨k, rfl⟩ := Int.eq_ofNat_of_zero_le kk0
    have hU1 := hU
    obtain ⟨pn, hpn⟩ := Int.eq_ofNat_of_zero_le (by omega : 0 ≤ 1 + per)
    rw [hpn]
    have hpn1 : 1 ≤ pn := by omega
    have hpn2 : pn ≤ 7 := by omega
    clear hpn per0 per1 D U Z Y0 X0 Y1 X1 Y2 X2
    go_loopw [7, 11] (fun out i wr => RelDa rb B n 4 w out i wr) (fun _ i _ => (intOf i).toNat)
    case atStart => exact ⟨[], k, rfl, by simp; omega, ho, hU1⟩
    case round =>
      clear ho hU1
      obtain ⟨l, k, rfl, hlk, ho, hU⟩ := hrel
      have hwz := hU.1.size
      have hll : l.length ≤ 1000 := by omega
      by_cases hk : 0 < k
      · rcases (by omega : mode = 0 ∨ mode = 1 ∨ 2 ≤ mode) with rfl | rfl | hmo
        · rcases Nat.eq_zero_or_pos l.length with hl | hl
          · have hl0 : ¬ (0 : Int) < (l.length : Int) := by omega
            obtain ⟨a, c, rfl⟩ := ownsRow_shape ho
            have HL := Lib.hid hl
            clear hl
            go_wp2_with (first | (go_at_call 31; ((with_reducible refine (pick_at (n := 256) HR.out hU (by intro c hU; (repeat (first | with_reducible assumption | refine RdUp.ups ?_ (by with_reducible assumption) | with_reducible refine RdUp.set ?_ (by first | exact Nat.le_refl _ | (simp only []; omega) | (simp; omega)) _ | with_reducible refine RdUp.alloc ?_ _ | with_reducible refine RdUp.drew ?_ | with_reducible exact RdUp.of (Up.refl _)))) (by omega)).mono ?_); rintro e w' ⟨x, rfl, x0, x1, hU, U⟩; have D := gcell U.1; have Z := U.1.size; (try simp at Z); (try have Y0 : w.heap.size < w'.heap.size := (by omega)); (try have Y1 : w.heap.size + 1 < w'.heap.size := (by omega)); (try have Y2 : w.heap.size + 1 + 1 < w'.heap.size := (by omega)); (try have X0 : w.heap.size < w'.heap.size + 1 := (by omega)); (try have X1 : w.heap.size + 1 < w'.heap.size + 1 := (by omega)); (try have X2 : w.heap.size + 1 + 1 < w'.heap.size + 1 := (by omega)); (have ho := own_rd ho hrb U.1; obtain ⟨hm0, hm1⟩ := mod_bd x part (by omega) (by omega)))) | (at_builtin; refine wpList_append_own _ rfl _ _ 22 rfl (w.heap.size + 1) 5 i0 (.int .u8 0) 1 1 Tryz.underlying22 hib hz0 hz1 hz2 rfl (by decide) _ _ _ rfl ((ho).alloc _) ⟨(w').heap.size, 0, none⟩ 1 1 [.int .u8 (x % part)] rfl rfl (new_cells [.int .u8 (x % part)] _ rfl) (by intro u hu; simp at hu; subst hu; rfl) (by unfold maxLen; omega) (by omega) (by simp; omega) ?_; rintro v2 w2 hown2 hgr2 -; have hsn := ownU_snocR hown2 (by omega) (by omega)))
            all_goals
              go_roundw
              case rel => exact ⟨_, k - 1, by go_num, by simp; omega, hsn, RdUp.mono ((hU.alloc _).gr hgr2 (fun y hy => by have := row_ge ho y hy; omega)) (by simp; omega)⟩
              case measure => simp [intOf]; omega
          · obtain ⟨g, c, rfl, hg1, hg2, hcl⟩ := own_at ho hl
            obtain ⟨m, hm⟩ : ∃ m : Nat, ((l.length : Int) - 1 = (m : Int)) := ⟨l.length - 1, by omega⟩
            have hml : m < l.length := by omega
            have hml1 : (m : Int) < (l.length : Int) := by omega
            have hgr : ¬ g = rb := by omega
            have hx1 := hcl m hml
            have hb1 := u8_bd l[m]
            have hb0 : (0 : Int) ≤ (l[m].toNat : Int) := Int.natCast_nonneg _
            generalize (l[m].toNat : Int) = z1 at *
            clear hcl
            go_wp2_with (first | (go_at_call 31; ((with_reducible refine (pick_at (n := 256) HR.out hU (by intro c hU; (repeat (first | with_reducible assumption | refine RdUp.ups ?_ (by with_reducible assumption) | with_reducible refine RdUp.set ?_ (by first | exact Nat.le_refl _ | (simp only []; omega) | (simp; omega)) _ | with_reducible refine RdUp.alloc ?_ _ | with_reducible refine RdUp.drew ?_ | with_reducible exact RdUp.of (Up.refl _)))) (by omega)).mono ?_); rintro e w' ⟨x, rfl, x0, x1, hU, U⟩; have D := gcell U.1; have Z := U.1.size; (try simp at Z); (try have Y0 : w.heap.size < w'.heap.size := (by omega)); (try have Y1 : w.heap.size + 1 < w'.heap.size := (by omega)); (try have Y2 : w.heap.size + 1 + 1 < w'.heap.size := (by omega)); (try have X0 : w.heap.size < w'.heap.size + 1 := (by omega)); (try have X1 : w.heap.size + 1 < w'.heap.size + 1 := (by omega)); (try have X2 : w.heap.size + 1 + 1 < w'.heap.size + 1 := (by omega)); (have ho := own_rd ho hrb U.1; have Yg : g < w'.heap.size := (by omega); obtain ⟨hm0, hm1⟩ := mod_bd x part (by omega) (by omega)))) | (go_at_call 31; ((with_reducible refine (pick_at (n := 4) HR.out hU (by intro c hU; (repeat (first | with_reducible assumption | refine RdUp.ups ?_ (by with_reducible assumption) | with_reducible refine RdUp.set ?_ (by first | exact Nat.le_refl _ | (simp only []; omega) | (simp; omega)) _ | with_reducible refine RdUp.alloc ?_ _ | with_reducible refine RdUp.drew ?_ | with_reducible exact RdUp.of (Up.refl _)))) (by omega)).mono ?_); rintro e w' ⟨y4, rfl, y40, y41, hU, U⟩; have D := gcell U.1; have Z := U.1.size; (try simp at Z); (try have Y0 : w.heap.size < w'.heap.size := (by omega)); (try have Y1 : w.heap.size + 1 < w'.heap.size := (by omega)); (try have Y2 : w.heap.size + 1 + 1 < w'.heap.size := (by omega)); (try have X0 : w.heap.size < w'.heap.size + 1 := (by omega)); (try have X1 : w.heap.size + 1 < w'.heap.size + 1 := (by omega)); (try have X2 : w.heap.size + 1 + 1 < w'.heap.size + 1 := (by omega)); (have ho := own_rd ho hrb U.1; have Yg : g < w'.heap.size := (by omega); skip))) | (at_builtin; refine wpList_append_own _ rfl _ _ 22 rfl (w.heap.size + 1) 5 i0 (.int .u8 0) 1 1 Tryz.underlying22 hib hz0 hz1 hz2 rfl (by decide) _ _ _ rfl ((ho).alloc _) ⟨(w').heap.size, 0, none⟩ 1 1 [.int .u8 (x % part)] rfl rfl (new_cells [.int .u8 (x % part)] _ rfl) (by intro u hu; simp at hu; subst hu; rfl) (by unfold maxLen; omega) (by omega) (by simp; omega) ?_; rintro v2 w2 hown2 hgr2 -; have hsn := ownU_snocR hown2 (by omega) (by omega)) | (at_builtin; refine wpList_append_own _ rfl _ _ 22 rfl (w.heap.size + 1) 5 i0 (.int .u8 0) 1 1 Tryz.underlying22 hib hz0 hz1 hz2 rfl (by decide) _ _ _ rfl ((ho).alloc _) ⟨(w').heap.size, 0, none⟩ 1 1 [.int .u8 z1] rfl rfl (new_cells [.int .u8 z1] _ rfl) (by intro u hu; simp at hu; subst hu; rfl) (by unfold maxLen; omega) (by omega) (by simp; omega) ?_; rintro v2 w2 hown2 hgr2 -; have hsn := ownU_snocR hown2 (by omega) (by omega)))
            all_goals
              go_roundw
              case rel => exact ⟨_, k - 1, by go_num, by simp; omega, hsn, RdUp.mono ((hU.alloc _).gr hgr2 (fun y hy => by have := row_ge ho y hy; omega)) (by simp; omega)⟩
              case measure => simp [intOf]; omega
        · by_cases hp : pn ≤ l.length
          · obtain ⟨g, c, rfl, hg1, hg2, hcl⟩ := own_at ho (by omega)
            obtain ⟨m, hm⟩ : ∃ m : Nat, ((l.length : Int) - (pn : Int) = (m : Int)) := ⟨l.length - pn, by omega⟩
            have hml : m < l.length := by omega
            have hml1 : (m : Int) < (l.length : Int) := by omega
            have hgr : ¬ g = rb := by omega
            have hx1 := hcl m hml
            have hb1 := u8_bd l[m]
            have hb0 : (0 : Int) ≤ (l[m].toNat : Int) := Int.natCast_nonneg _
            generalize (l[m].toNat : Int) = z1 at *
            clear hcl
            go_wp2_with (first | (go_at_call 31; ((with_reducible refine (pick_at (n := 256) HR.out hU (by intro c hU; (repeat (first | with_reducible assumption | refine RdUp.ups ?_ (by with_reducible assumption) | with_reducible refine RdUp.set ?_ (by first | exact Nat.le_refl _ | (simp only []; omega) | (simp; omega)) _ | with_reducible refine RdUp.alloc ?_ _ | with_reducible refine RdUp.drew ?_ | with_reducible exact RdUp.of (Up.refl _)))) (by omega)).mono ?_); rintro e w' ⟨x, rfl, x0, x1, hU, U⟩; have D := gcell U.1; have Z := U.1.size; (try simp at Z); (try have Y0 : w.heap.size < w'.heap.size := (by omega)); (try have Y1 : w.heap.size + 1 < w'.heap.size := (by omega)); (try have Y2 : w.heap.size + 1 + 1 < w'.heap.size := (by omega)); (try have X0 : w.heap.size < w'.heap.size + 1 := (by omega)); (try have X1 : w.heap.size + 1 < w'.heap.size + 1 := (by omega)); (try have X2 : w.heap.size + 1 + 1 < w'.heap.size + 1 := (by omega)); (have ho := own_rd ho hrb U.1; have Yg : g < w'.heap.size := (by omega); obtain ⟨hm0, hm1⟩ := mod_bd x part (by omega) (by omega)))) | (go_at_call 31; ((with_reducible refine (pick_at (n := 10) HR.out hU (by intro c hU; (repeat (first | with_reducible assumption | refine RdUp.ups ?_ (by with_reducible assumption) | with_reducible refine RdUp.set ?_ (by first | exact Nat.le_refl _ | (simp only []; omega) | (simp; omega)) _ | with_reducible refine RdUp.alloc ?_ _ | with_reducible refine RdUp.drew ?_ | with_reducible exact RdUp.of (Up.refl _)))) (by omega)).mono ?_); rintro e w' ⟨y10, rfl, y100, y101, hU, U⟩; have D := gcell U.1; have Z := U.1.size; (try simp at Z); (try have Y0 : w.heap.size < w'.heap.size := (by omega)); (try have Y1 : w.heap.size + 1 < w'.heap.size := (by omega)); (try have Y2 : w.heap.size + 1 + 1 < w'.heap.size := (by omega)); (try have X0 : w.heap.size < w'.heap.size + 1 := (by omega)); (try have X1 : w.heap.size + 1 < w'.heap.size + 1 := (by omega)); (try have X2 : w.heap.size + 1 + 1 < w'.heap.size + 1 := (by omega)); (have ho := own_rd ho hrb U.1; have Yg : g < w'.heap.size := (by omega); skip))) | (at_builtin; refine wpList_append_own _ rfl _ _ 22 rfl (w.heap.size + 1) 5 i0 (.int .u8 0) 1 1 Tryz.underlying22 hib hz0 hz1 hz2 rfl (by decide) _ _ _ rfl ((ho).alloc _) ⟨(w').heap.size, 0, none⟩ 1 1 [.int .u8 (x % part)] rfl rfl (new_cells [.int .u8 (x % part)] _ rfl) (by intro u hu; simp at hu; subst hu; rfl) (by unfold maxLen; omega) (by omega) (by simp; omega) ?_; rintro v2 w2 hown2 hgr2 -; have hsn := ownU_snocR hown2 (by omega) (by omega)) | (at_builtin; refine wpList_append_own _ rfl _ _ 22 rfl (w.heap.size + 1) 5 i0 (.int .u8 0) 1 1 Tryz.underlying22 hib hz0 hz1 hz2 rfl (by decide) _ _ _ rfl ((ho).alloc _) ⟨(w').heap.size, 0, none⟩ 1 1 [.int .u8 z1] rfl rfl (new_cells [.int .u8 z1] _ rfl) (by intro u hu; simp at hu; subst hu; rfl) (by unfold maxLen; omega) (by omega) (by simp; omega) ?_; rintro v2 w2 hown2 hgr2 -; have hsn := ownU_snocR hown2 (by omega) (by omega)))
            all_goals
              go_roundw
              case rel => exact ⟨_, k - 1, by go_num, by simp; omega, hsn, RdUp.mono ((hU.alloc _).gr hgr2 (fun y hy => by have := row_ge ho y hy; omega)) (by simp; omega)⟩
              case measure => simp [intOf]; omega
          · obtain ⟨a, c, rfl⟩ := ownsRow_shape ho
            go_wp2_with (first | (go_at_call 31; ((with_reducible refine (pick_at (n := 256) HR.out hU (by intro c hU; (repeat (first | with_reducible assumption | refine RdUp.ups ?_ (by with_reducible assumption) | with_reducible refine RdUp.set ?_ (by first | exact Nat.le_refl _ | (simp only []; omega) | (simp; omega)) _ | with_reducible refine RdUp.alloc ?_ _ | with_reducible refine RdUp.drew ?_ | with_reducible exact RdUp.of (Up.refl _)))) (by omega)).mono ?_); rintro e w' ⟨x, rfl, x0, x1, hU, U⟩; have D := gcell U.1; have Z := U.1.size; (try simp at Z); (try have Y0 : w.heap.size < w'.heap.size := (by omega)); (try have Y1 : w.heap.size + 1 < w'.heap.size := (by omega)); (try have Y2 : w.heap.size + 1 + 1 < w'.heap.size := (by omega)); (try have X0 : w.heap.size < w'.heap.size + 1 := (by omega)); (try have X1 : w.heap.size + 1 < w'.heap.size + 1 := (by omega)); (try have X2 : w.heap.size + 1 + 1 < w'.heap.size + 1 := (by omega)); (have ho := own_rd ho hrb U.1; obtain ⟨hm0, hm1⟩ := mod_bd x part (by omega) (by omega)))) | (at_builtin; refine wpList_append_own _ rfl _ _ 22 rfl (w.heap.size + 1) 5 i0 (.int .u8 0) 1 1 Tryz.underlying22 hib hz0 hz1 hz2 rfl (by decide) _ _ _ rfl ((ho).alloc _) ⟨(w').heap.size, 0, none⟩ 1 1 [.int .u8 (x % part)] rfl rfl (new_cells [.int .u8 (x % part)] _ rfl) (by intro u hu; simp at hu; subst hu; rfl) (by unfold maxLen; omega) (by omega) (by simp; omega) ?_; rintro v2 w2 hown2 hgr2 -; have hsn := ownU_snocR hown2 (by omega) (by omega)))
            all_goals
              go_roundw
              case rel => exact ⟨_, k - 1, by go_num, by simp; omega, hsn, RdUp.mono ((hU.alloc _).gr hgr2 (fun y hy => by have := row_ge ho y hy; omega)) (by simp; omega)⟩
              case measure => simp [intOf]; omega
        · obtain ⟨a, c, rfl⟩ := ownsRow_shape ho
          go_wp2_with (first | (go_at_call 31; ((with_reducible refine (pick_at (n := 256) HR.out hU (by intro c hU; (repeat (first | with_reducible assumption | refine RdUp.ups ?_ (by with_reducible assumption) | with_reducible refine RdUp.set ?_ (by first | exact Nat.le_refl _ | (simp only []; omega) | (simp; omega)) _ | with_reducible refine RdUp.alloc ?_ _ | with_reducible refine RdUp.drew ?_ | with_reducible exact RdUp.of (Up.refl _)))) (by omega)).mono ?_); rintro e w' ⟨x, rfl, x0, x1, hU, U⟩; have D := gcell U.1; have Z := U.1.size; (try simp at Z); (try have Y0 : w.heap.size < w'.heap.size := (by omega)); (try have Y1 : w.heap.size + 1 < w'.heap.size := (by omega)); (try have Y2 : w.heap.size + 1 + 1 < w'.heap.size := (by omega)); (try have X0 : w.heap.size < w'.heap.size + 1 := (by omega)); (try have X1 : w.heap.size + 1 < w'.heap.size + 1 := (by omega)); (try have X2 : w.heap.size + 1 + 1 < w'.heap.size + 1 := (by omega)); (have ho := own_rd ho hrb U.1; obtain ⟨hm0, hm1⟩ := mod_bd x part (by omega) (by omega)))) | (at_builtin; refine wpList_append_own _ rfl _ _ 22 rfl (w.heap.size + 1) 5 i0 (.int .u8 0) 1 1 Tryz.underlying22 hib hz0 hz1 hz2 rfl (by decide) _ _ _ rfl ((ho).alloc _) ⟨(w').heap.size, 0, none⟩ 1 1 [.int .u8 (x % part)] rfl rfl (new_cells [.int .u8 (x % part)] _ rfl) (by intro u hu; simp at hu; subst hu; rfl) (by unfold maxLen; omega) (by omega) (by simp; omega) ?_; rintro v2 w2 hown2 hgr2 -; have hsn := ownU_snocR hown2 (by omega) (by omega)))
          all_goals
            go_roundw
            case rel => exact ⟨_, k - 1, by go_num, by simp; omega, hsn, RdUp.mono ((hU.alloc _).gr hgr2 (fun y hy => by have := row_ge ho y hy; omega)) (by simp; omega)⟩
            case measure => simp [intOf]; omega
      · obtain ⟨a, c, rfl⟩ := ownsRow_shape ho
        have cv := conv_any ho rfl
        clear ho
        go_wp2
        go_ret
        refine ⟨_, rfl, ⟨_, rfl, by rw [bs_size]; omega⟩, ?_⟩
        exact RdUp.fin hU (by intro c hU; (repeat (first | with_reducible assumption | refine RdUp.ups ?_ (by with_reducible assumption) | with_reducible refine RdUp.set ?_ (by first | exact Nat.le_refl _ | (simp only []; omega) | (simp; omega)) _ | with_reducible refine RdUp.alloc ?_ _ | with_reducible refine RdUp.drew ?_ | with_reducible exact RdUp.of (Up.refl _)))) (by omega)
  · obtain ⟨part, rfl⟩ : ∃ p : Int, p = i := ⟨_, rfl⟩
    have hrb : rb < w.heap.size + 1 := by omega
    go_wp2_with (first | (go_at_call 31; ((with_reducible refine (pick_at (n := 7) HR.out hU (by intro c hU; (repeat (first | with_reducible assumption | refine RdUp.ups ?_ (by with_reducible assumption) | with_reducible refine RdUp.set ?_ (by first | exact Nat.le_refl _ | (simp only []; omega) | (simp; omega)) _ | with_reducible refine RdUp.alloc ?_ _ | with_reducible refine RdUp.drew ?_ | with_reducible exact RdUp.of (Up.refl _)))) (by omega)).mono ?_); rintro e w' ⟨per, rfl, per0, per1, hU, U⟩; have D := gcell U.1; have Z := U.1.size; (try simp at Z); (try have Y0 : w.heap.size < w'.heap.size := (by omega)); (try have Y1 : w.heap.size + 1 < w'.heap.size := (by omega)); (try have Y2 : w.heap.size + 1 + 1 < w'.heap.size := (by omega)); (try have X0 : w.heap.size < w'.heap.size + 1 := (by omega)); (try have X1 : w.heap.size + 1 < w'.heap.size + 1 := (by omega)); (try have X2 : w.heap.size + 1 + 1 < w'.heap.size + 1 := (by omega)); (have ho := own_rd ho hrb U.1))) | (go_at_call 31; ((with_reducible refine (pick_at (n := 4) HR.out hU (by intro c hU; (repeat (first | with_reducible assumption | refine RdUp.ups ?_ (by with_reducible assumption) | with_reducible refine RdUp.set ?_ (by first | exact Nat.le_refl _ | (simp only []; omega) | (simp; omega)) _ | with_reducible refine RdUp.alloc ?_ _ | with_reducible refine RdUp.drew ?_ | with_reducible exact RdUp.of (Up.refl _)))) (by omega)).mono ?_); rintro e w' ⟨mode, rfl, mode0, mode1, hU, U⟩; have D := gcell U.1; have Z := U.1.size; (try simp at Z); (try have Y0 : w.heap.size < w'.heap.size := (by omega)); (try have Y1 : w.heap.size + 1 < w'.heap.size := (by omega)); (try have Y2 : w.heap.size + 1 + 1 < w'.heap.size := (by omega)); (try have X0 : w.heap.size < w'.heap.size + 1 := (by omega)); (try have X1 : w.heap.size + 1 < w'.heap.size + 1 := (by omega)); (try have X2 : w.heap.size + 1 + 1 < w'.heap.size + 1 := (by omega)); (have ho := own_rd ho hrb U.1))) | (go_at_call 31; ((with_reducible refine (pick_at (n := (n : Int) + 1) HR.out hU (by intro c hU; (repeat (first | with_reducible assumption | refine RdUp.ups ?_ (by with_reducible assumption) | with_reducible refine RdUp.set ?_ (by first | exact Nat.le_refl _ | (simp only []; omega) | (simp; omega)) _ | with_reducible refine RdUp.alloc ?_ _ | with_reducible refine RdUp.drew ?_ | with_reducible exact RdUp.of (Up.refl _)))) (by omega)).mono ?_); rintro e w' ⟨kk, rfl, kk0, kk1, hU, U⟩; have D := gcell U.1; have Z := U.1.size; (try simp at Z); (try have Y0 : w.heap.size < w'.heap.size := (by omega)); (try have Y1 : w.heap.size + 1 < w'.heap.size := (by omega)); (try have Y2 : w.heap.size + 1 + 1 < w'.heap.size := (by omega)); (try have X0 : w.heap.size < w'.heap.size + 1 := (by omega)); (try have X1 : w.heap.size + 1 < w'.heap.size + 1 := (by omega)); (try have X2 : w.heap.size + 1 + 1 < w'.heap.size + 1 := (by omega)); (have ho := own_rd ho hrb U.1))))
    obtain ⟨k, rfl⟩ := Int.eq_ofNat_of_zero_le kk0
    have hU1 := hU
    obtain ⟨pn, hpn⟩ := Int.eq_ofNat_of_zero_le (by omega : 0 ≤ 1 + per)
    rw [hpn]
    have hpn1 : 1 ≤ pn := by omega
    have hpn2 : pn ≤ 7 := by omega
    clear hpn per0 per1 D U Z Y0 X0 Y1 X1 Y2 X2
    go_loopw [7, 11] (fun out i wr => RelDa rb B n 4 w out i wr) (fun _ i _ => (intOf i).toNat)
    case atStart => exact ⟨[], k, rfl, by simp; omega, ho, hU1⟩
    case round =>
      clear ho hU1
      obtain ⟨l, k, rfl, hlk, ho, hU⟩ := hrel
      have hwz := hU.1.size
      have hll : l.length ≤ 1000 := by omega
      by_cases hk : 0 < k
      · rcases (by omega : mode = 0 ∨ mode = 1 ∨ 2 ≤ mode) with rfl | rfl | hmo
        · rcases Nat.eq_zero_or_pos l.length with hl | hl
          · have hl0 : ¬ (0 : Int) < (l.length : Int) := by omega
            obtain ⟨a, c, rfl⟩ := ownsRow_shape ho
            have HL := Lib.hid hl
            clear hl
            go_wp2_with (first | (go_at_call 31; ((with_reducible refine (pick_at (n := 256) HR.out hU (by intro c hU; (repeat (first | with_reducible assumption | refine RdUp.ups ?_ (by with_reducible assumption) | with_reducible refine RdUp.set ?_ (by first | exact Nat.le_refl _ | (simp only []; omega) | (simp; omega)) _ | with_reducible refine RdUp.alloc ?_ _ | with_reducible refine RdUp.drew ?_ | with_reducible exact RdUp.of (Up.refl _)))) (by omega)).mono ?_); rintro e w' ⟨x, rfl, x0, x1, hU, U⟩; have D := gcell U.1; have Z := U.1.size; (try simp at Z); (try have Y0 : w.heap.size < w'.heap.size := (by omega)); (try have Y1 : w.heap.size + 1 < w'.heap.size := (by omega)); (try have Y2 : w.heap.size + 1 + 1 < w'.heap.size := (by omega)); (try have X0 : w.heap.size < w'.heap.size + 1 := (by omega)); (try have X1 : w.heap.size + 1 < w'.heap.size + 1 := (by omega)); (try have X2 : w.heap.size + 1 + 1 < w'.heap.size + 1 := (by omega)); (have ho := own_rd ho hrb U.1; obtain ⟨hm0, hm1⟩ := mod_bd x part (by omega) (by omega)))) | (at_builtin; refine wpList_append_own _ rfl _ _ 22 rfl (w.heap.size + 1) 5 i0 (.int .u8 0) 1 1 Tryz.underlying22 hib hz0 hz1 hz2 rfl (by decide) _ _ _ rfl ((ho).alloc _) ⟨(w').heap.size, 0, none⟩ 1 1 [.int .u8 (x % part)] rfl rfl (new_cells [.int .u8 (x % part)] _ rfl) (by intro u hu; simp at hu; subst hu; rfl) (by unfold maxLen; omega) (by omega) (by simp; omega) ?_; rintro v2 w2 hown2 hgr2 -; have hsn := ownU_snocR hown2 (by omega) (by omega)))
            all_goals
              go_roundw
              case rel => exact ⟨_, k - 1, by go_num, by simp; omega, hsn, RdUp.mono ((hU.alloc _).gr hgr2 (fun y hy => by have := row_ge ho y hy; omega)) (by simp; omega)⟩
              case measure => simp [intOf]; omega
          · obtain ⟨g, c, rfl, hg1, hg2, hcl⟩ := own_at ho hl
            obtain ⟨m, hm⟩ : ∃ m : Nat, ((l.length : Int) - 1 = (m : Int)) := ⟨l.length - 1, by omega⟩
            have hml : m < l.length := by omega
            have hml1 : (m : Int) < (l.length : Int) := by omega
            have hgr : ¬ g = rb := by omega
            have hx1 := hcl m hml
            have hb1 := u8_bd l[m]
            have hb0 : (0 : Int) ≤ (l[m].toNat : Int) := Int.natCast_nonneg _
            generalize (l[m].toNat : Int) = z1 at *
            clear hcl
            go_wp2_with (first | (go_at_call 31; ((with_reducible refine (pick_at (n := 256) HR.out hU (by intro c hU; (repeat (first | with_reducible assumption | refine RdUp.ups ?_ (by with_reducible assumption) | with_reducible refine RdUp.set ?_ (by first | exact Nat.le_refl _ | (simp only []; omega) | (simp; omega)) _ | with_reducible refine RdUp.alloc ?_ _ | with_reducible refine RdUp.drew ?_ | with_reducible exact RdUp.of (Up.refl _)))) (by omega)).mono ?_); rintro e w' ⟨x, rfl, x0, x1, hU, U⟩; have D := gcell U.1; have Z := U.1.size; (try simp at Z); (try have Y0 : w.heap.size < w'.heap.size := (by omega)); (try have Y1 : w.heap.size + 1 < w'.heap.size := (by omega)); (try have Y2 : w.heap.size + 1 + 1 < w'.heap.size := (by omega)); (try have X0 : w.heap.size < w'.heap.size + 1 := (by omega)); (try have X1 : w.heap.size + 1 < w'.heap.size + 1 := (by omega)); (try have X2 : w.heap.size + 1 + 1 < w'.heap.size + 1 := (by omega)); (have ho := own_rd ho hrb U.1; have Yg : g < w'.heap.size := (by omega); obtain ⟨hm0, hm1⟩ := mod_bd x part (by omega) (by omega)))) | (go_at_call 31; ((with_reducible refine (pick_at (n := 4) HR.out hU (by intro c hU; (repeat (first | with_reducible assumption | refine RdUp.ups ?_ (by with_reducible assumption) | with_reducible refine RdUp.set ?_ (by first | exact Nat.le_refl _ | (simp only []; omega) | (simp; omega)) _ | with_reducible refine RdUp.alloc ?_ _ | with_reducible refine RdUp.drew ?_ | with_reducible exact RdUp.of (Up.refl _)))) (by omega)).mono ?_); rintro e w' ⟨y4, rfl, y40, y41, hU, U⟩; have D := gcell U.1; have Z := U.1.size; (try simp at Z); (try have Y0 : w.heap.size < w'.heap.size := (by omega)); (try have Y1 : w.heap.size + 1 < w'.heap.size := (by omega)); (try have Y2 : w.heap.size + 1 + 1 < w'.heap.size := (by omega)); (try have X0 : w.heap.size < w'.heap.size + 1 := (by omega)); (try have X1 : w.heap.size + 1 < w'.heap.size + 1 := (by omega)); (try have X2 : w.heap.size + 1 + 1 < w'.heap.size + 1 := (by omega)); (have ho := own_rd ho hrb U.1; have Yg : g < w'.heap.size := (by omega); skip))) | (at_builtin; refine wpList_append_own _ rfl _ _ 22 rfl (w.heap.size + 1) 5 i0 (.int .u8 0) 1 1 Tryz.underlying22 hib hz0 hz1 hz2 rfl (by decide) _ _ _ rfl ((ho).alloc _) ⟨(w').heap.size, 0, none⟩ 1 1 [.int .u8 (x % part)] rfl rfl (new_cells [.int .u8 (x % part)] _ rfl) (by intro u hu; simp at hu; subst hu; rfl) (by unfold maxLen; omega) (by omega) (by simp; omega) ?_; rintro v2 w2 hown2 hgr2 -; have hsn := ownU_snocR hown2 (by omega) (by omega)) | (at_builtin; refine wpList_append_own _ rfl _ _ 22 rfl (w.heap.size + 1) 5 i0 (.int .u8 0) 1 1 Tryz.underlying22 hib hz0 hz1 hz2 rfl (by decide) _ _ _ rfl ((ho).alloc _) ⟨(w').heap.size, 0, none⟩ 1 1 [.int .u8 z1] rfl rfl (new_cells [.int .u8 z1] _ rfl) (by intro u hu; simp at hu; subst hu; rfl) (by unfold maxLen; omega) (by omega) (by simp; omega) ?_; rintro v2 w2 hown2 hgr2 -; have hsn := ownU_snocR hown2 (by omega) (by omega)))
            all_goals
              go_roundw
              case rel => exact ⟨_, k - 1, by go_num, by simp; omega, hsn, RdUp.mono ((hU.alloc _).gr hgr2 (fun y hy => by have := row_ge ho y hy; omega)) (by simp; omega)⟩
              case measure => simp [intOf]; omega
        · by_cases hp : pn ≤ l.length
          · obtain ⟨g, c, rfl, hg1, hg2, hcl⟩ := own_at ho (by omega)
            obtain ⟨m, hm⟩ : ∃ m : Nat, ((l.length : Int) - (pn : Int) = (m : Int)) := ⟨l.length - pn, by omega⟩
            have hml : m < l.length := by omega
            have hml1 : (m : Int) < (l.length : Int) := by omega
            have hgr : ¬ g = rb := by omega
            have hx1 := hcl m hml
            have hb1 := u8_bd l[m]
            have hb0 : (0 : Int) ≤ (l[m].toNat : Int) := Int.natCast_nonneg _
            generalize (l[m].toNat : Int) = z1 at *
            clear hcl
            go_wp2_with (first | (go_at_call 31; ((with_reducible refine (pick_at (n := 256) HR.out hU (by intro c hU; (repeat (first | with_reducible assumption | refine RdUp.ups ?_ (by with_reducible assumption) | with_reducible refine RdUp.set ?_ (by first | exact Nat.le_refl _ | (simp only []; omega) | (simp; omega)) _ | with_reducible refine RdUp.alloc ?_ _ | with_reducible refine RdUp.drew ?_ | with_reducible exact RdUp.of (Up.refl _)))) (by omega)).mono ?_); rintro e w' ⟨x, rfl, x0, x1, hU, U⟩; have D := gcell U.1; have Z := U.1.size; (try simp at Z); (try have Y0 : w.heap.size < w'.heap.size := (by omega)); (try have Y1 : w.heap.size + 1 < w'.heap.size := (by omega)); (try have Y2 : w.heap.size + 1 + 1 < w'.heap.size := (by omega)); (try have X0 : w.heap.size < w'.heap.size + 1 := (by omega)); (try have X1 : w.heap.size + 1 < w'.heap.size + 1 := (by omega)); (try have X2 : w.heap.size + 1 + 1 < w'.heap.size + 1 := (by omega)); (have ho := own_rd ho hrb U.1; have Yg : g < w'.heap.size := (by omega); obtain ⟨hm0, hm1⟩ := mod_bd x part (by omega) (by omega)))) | (go_at_call 31; ((with_reducible refine (pick_at (n := 10) HR.out hU (by intro c hU; (repeat (first | with_reducible assumption | refine RdUp.ups ?_ (by with_reducible assumption) | with_reducible refine RdUp.set ?_ (by first | exact Nat.le_refl _ | (simp only []; omega) | (simp; omega)) _ | with_reducible refine RdUp.alloc ?_ _ | with_reducible refine RdUp.drew ?_ | with_reducible exact RdUp.of (Up.refl _)))) (by omega)).mono ?_); rintro e w' ⟨y10, rfl, y100, y101, hU, U⟩; have D := gcell U.1; have Z := U.1.size; (try simp at Z); (try have Y0 : w.heap.size < w'.heap.size := (by omega)); (try have Y1 : w.heap.size + 1 < w'.heap.size := (by omega)); (try have Y2 : w.heap.size + 1 + 1 < w'.heap.size := (by omega)); (try have X0 : w.heap.size < w'.heap.size + 1 := (by omega)); (try have X1 : w.heap.size + 1 < w'.heap.size + 1 := (by omega)); (try have X2 : w.heap.size + 1 + 1 < w'.heap.size + 1 := (by omega)); (have ho := own_rd ho hrb U.1; have Yg : g < w'.heap.size := (by omega); skip))) | (at_builtin; refine wpList_append_own _ rfl _ _ 22 rfl (w.heap.size + 1) 5 i0 (.int .u8 0) 1 1 Tryz.underlying22 hib hz0 hz1 hz2 rfl (by decide) _ _ _ rfl ((ho).alloc _) ⟨(w').heap.size, 0, none⟩ 1 1 [.int .u8 (x % part)] rfl rfl (new_cells [.int .u8 (x % part)] _ rfl) (by intro u hu; simp at hu; subst hu; rfl) (by unfold maxLen; omega) (by omega) (by simp; omega) ?_; rintro v2 w2 hown2 hgr2 -; have hsn := ownU_snocR hown2 (by omega) (by omega)) | (at_builtin; refine wpList_append_own _ rfl _ _ 22 rfl (w.heap.size + 1) 5 i0 (.int .u8 0) 1 1 Tryz.underlying22 hib hz0 hz1 hz2 rfl (by decide) _ _ _ rfl ((ho).alloc _) ⟨(w').heap.size, 0, none⟩ 1 1 [.int .u8 z1] rfl rfl (new_cells [.int .u8 z1] _ rfl) (by intro u hu; simp at hu; subst hu; rfl) (by unfold maxLen; omega) (by omega) (by simp; omega) ?_; rintro v2 w2 hown2 hgr2 -; have hsn := ownU_snocR hown2 (by omega) (by omega)))
            all_goals
              go_roundw
              case rel => exact ⟨_, k - 1, by go_num, by simp; omega, hsn, RdUp.mono ((hU.alloc _).gr hgr2 (fun y hy => by have := row_ge ho y hy; omega)) (by simp; omega)⟩
              case measure => simp [intOf]; omega
          · obtain ⟨a, c, rfl⟩ := ownsRow_shape ho
            go_wp2_with (first | (go_at_call 31; ((with_reducible refine (pick_at (n := 256) HR.out hU (by intro c hU; (repeat (first | with_reducible assumption | refine RdUp.ups ?_ (by with_reducible assumption) | with_reducible refine RdUp.set ?_ (by first | exact Nat.le_refl _ | (simp only []; omega) | (simp; omega)) _ | with_reducible refine RdUp.alloc ?_ _ | with_reducible refine RdUp.drew ?_ | with_reducible exact RdUp.of (Up.refl _)))) (by omega)).mono ?_); rintro e w' ⟨x, rfl, x0, x1, hU, U⟩; have D := gcell U.1; have Z := U.1.size; (try simp at Z); (try have Y0 : w.heap.size < w'.heap.size := (by omega)); (try have Y1 : w.heap.size + 1 < w'.heap.size := (by omega)); (try have Y2 : w.heap.size + 1 + 1 < w'.heap.size := (by omega)); (try have X0 : w.heap.size < w'.heap.size + 1 := (by omega)); (try have X1 : w.heap.size + 1 < w'.heap.size + 1 := (by omega)); (try have X2 : w.heap.size + 1 + 1 < w'.heap.size + 1 := (by omega)); (have ho := own_rd ho hrb U.1; obtain ⟨hm0, hm1⟩ := mod_bd x part (by omega) (by omega)))) | (at_builtin; refine wpList_append_own _ rfl _ _ 22 rfl (w.heap.size + 1) 5 i0 (.int .u8 0) 1 1 Tryz.underlying22 hib hz0 hz1 hz2 rfl (by decide) _ _ _ rfl ((ho).alloc _) ⟨(w').heap.size, 0, none⟩ 1 1 [.int .u8 (x % part)] rfl rfl (new_cells [.int .u8 (x % part)] _ rfl) (by intro u hu; simp at hu; subst hu; rfl) (by unfold maxLen; omega) (by omega) (by simp; omega) ?_; rintro v2 w2 hown2 hgr2 -; have hsn := ownU_snocR hown2 (by omega) (by omega)))
            all_goals
              go_roundw
              case rel => exact ⟨_, k - 1, by go_num, by simp; omega, hsn, RdUp.mono ((hU.alloc _).gr hgr2 (fun y hy => by have := row_ge ho y hy; omega)) (by simp; omega)⟩
              case measure => simp [intOf]; omega
        · obtain ⟨a, c, rfl⟩ := ownsRow_shape ho
          go_wp2_with (first | (go_at_call 31; ((with_reducible refine (pick_at (n := 256) HR.out hU (by intro c hU; (repeat (first | with_reducible assumption | refine RdUp.ups ?_ (by with_reducible assumption) | with_reducible refine RdUp.set ?_ (by first | exact Nat.le_refl _ | (simp only []; omega) | (simp; omega)) _ | with_reducible refine RdUp.alloc ?_ _ | with_reducible refine RdUp.drew ?_ | with_reducible exact RdUp.of (Up.refl _)))) (by omega)).mono ?_); rintro e w' ⟨x, rfl, x0, x1, hU, U⟩; have D := gcell U.1; have Z := U.1.size; (try simp at Z); (try have Y0 : w.heap.size < w'.heap.size := (by omega)); (try have Y1 : w.heap.size + 1 < w'.heap.size := (by omega)); (try have Y2 : w.heap.size + 1 + 1 < w'.heap.size := (by omega)); (try have X0 : w.heap.size < w'.heap.size + 1 := (by omega)); (try have X1 : w.heap.size + 1 < w'.heap.size + 1 := (by omega)); (try have X2 : w.heap.size + 1 + 1 < w'.heap.size + 1 := (by omega)); (have ho := own_rd ho hrb U.1; obtain ⟨hm0, hm1⟩ := mod_bd x part (by omega) (by omega)))) | (at_builtin; refine wpList_append_own _ rfl _ _ 22 rfl (w.heap.size + 1) 5 i0 (.int .u8 0) 1 1 Tryz.underlying22 hib hz0 hz1 hz2 rfl (by decide) _ _ _ rfl ((ho).alloc _) ⟨(w').heap.size, 0, none⟩ 1 1 [.int .u8 (x % part)] rfl rfl (new_cells [.int .u8 (x % part)] _ rfl) (by intro u hu; simp at hu; subst hu; rfl) (by unfold maxLen; omega) (by omega) (by simp; omega) ?_; rintro v2 w2 hown2 hgr2 -; have hsn := ownU_snocR hown2 (by omega) (by omega)))
          all_goals
            go_roundw
            case rel => exact ⟨_, k - 1, by go_num, by simp; omega, hsn, RdUp.mono ((hU.alloc _).gr hgr2 (fun y hy => by have := row_ge ho y hy; omega)) (by simp; omega)⟩
            case measure => simp [intOf]; omega
      · obtain ⟨a, c, rfl⟩ := ownsRow_shape ho
        have cv := conv_any ho rfl
        clear ho
        go_wp2
        go_ret
        refine ⟨_, rfl, ⟨_, rfl, by rw [bs_size]; omega⟩, ?_⟩
        exact RdUp.fin hU (by intro c hU; (repeat (first | with_reducible assumption | refine RdUp.ups ?_ (by with_reducible assumption) | with_reducible refine RdUp.set ?_ (by first | exact Nat.le_refl _ | (simp only []; omega) | (simp; omega)) _ | with_reducible refine RdUp.alloc ?_ _ | with_reducible refine RdUp.drew ?_ | with_reducible exact RdUp.of (Up.refl _)))) (by omega)
end Go.Proofs.YtekogcjdaolcbaaGreatDoor

/- Walks of the reference's functions on bits. Conditions: as each says. -/
namespace Go.Proofs.YtekogcjdaolcbaaGreatDoor
open Go Go.RowKit
def bitB (n i : Nat) : UInt8 := UInt8.ofNat (48 + n / 2 ^ i % 2)
theorem bitB_nat (n i : Nat) : (bitB n i).toNat = 48 + n / 2 ^ i % 2 := by unfold bitB; rw [UInt8.toNat_ofNat']; omega
def lowL (n wd : Nat) : List UInt8 := (List.range wd).map (bitB n)
theorem lowL_succ (n wd : Nat) : lowL n (wd + 1) = lowL n wd ++ [bitB n wd] := by simp [lowL, List.range_succ]
theorem lowL_length (n wd : Nat) : (lowL n wd).length = wd := by simp [lowL]
def codeL (o : Int) (n wd : Nat) : List UInt8 := if o = 0 then lowL n wd else (lowL n wd).reverse
theorem codeL_length (o : Int) (n wd : Nat) : (codeL o n wd).length = wd := by unfold codeL; split <;> simp [lowL_length]
theorem codeL_low {o : Int} (h : o = 0) (n wd : Nat) : codeL o n (wd + 1) = codeL o n wd ++ [bitB n wd] := by unfold codeL; rw [if_pos h, if_pos h, lowL_succ]
theorem codeL_high {o : Int} (h : ¬ o = 0) (n wd : Nat) : codeL o n (wd + 1) = [bitB n wd] ++ codeL o n wd := by unfold codeL; rw [if_neg h, if_neg h, lowL_succ]; simp
theorem bit_num (n i : Nat) : strOfNums [48 + (n : Int) / ((2 ^ i : Nat) : Int) % 2] = bs [bitB n i] := by
  rw [← bs_num]
  congr 1
  simp only [List.map_cons, List.map_nil, List.cons.injEq, and_true]
  rw [bitB_nat]
  omega
theorem and_one (x : Nat) (h : x ≤ 1048576) : bits .and .i64 (x : Int) 1 = ((x % 2 : Nat) : Int) := by
  have := bits_mask .i64 63 (by decide) (fun n h0 h1 => IntWalk.i64_in n (by omega)) 1 (by omega) (x : Int) (by omega) (by omega)
  simpa using this
theorem digit_eq (n j : Nat) (hn : n ≤ 1048576) : wrap64 (48 + bits .and .i64 ((n : Int) / 2 ^ j) 1) % 256 = 48 + (n : Int) / ((2 ^ j : Nat) : Int) % 2 := by
  have h1 : ((n : Int) / 2 ^ j) = ((n / 2 ^ j : Nat) : Int) := by simp
  have h2 : n / 2 ^ j ≤ n := Nat.div_le_self _ _
  rw [h1, and_one _ (by omega), IntWalk.wrap64_in _ (by omega)]
  have h3 : ((n : Int) / ((2 ^ j : Nat) : Int)) = ((n / 2 ^ j : Nat) : Int) := by simp
  rw [h3]
  omega
def RelCd (o : Int) (n wd : Nat) (w : World) (out i : Value) (wr : World) : Prop := ∃ j : Nat, j ≤ wd ∧ i = .int .i64 j ∧ out = .string (bs (codeL o n j)) ∧ Up w wr
set_option maxRecDepth 100000 in
set_option maxHeartbeats 1000000 in
theorem l1Code_any (o : Int) (n wd : Nat) (w : World) (hn : n ≤ 1048576) (hw : wd ≤ 16) :
    Calls Tryz.prog 150  #[.int .i64 o, .int .i64 n, .int .i64 wd] w (Same (.string (bs (codeL o n wd))) w) := by
  have hc := conv_new1
  by_cases ho : o = 0
  · subst ho
    go_enter Tryz.func150, Tryz.ntmps150
    go_wp2
    go_loopw [7, 8] (fun out i wr => RelCd 0 n wd w out i wr) (fun _ i _ => wd - (intOf i).toNat)
    case atStart => exact ⟨0, Nat.zero_le _, rfl, by first | rfl | (unfold codeL; split <;> rfl), Up.refl _⟩
    case round =>
      obtain ⟨j, hj, rfl, rfl, hup⟩ := hrel
      have hcl := bs_size (codeL 0 n j)
      rw [codeL_length] at hcl
      have z1 := strOfNums_size
      by_cases hlt : j < wd
      · have HD : Hid (strOfNums [wrap64 (48 + bits .and .i64 ((n : Int) / 2 ^ j) 1) % 256] = bs [bitB n j]) := by unfold Hid; rw [digit_eq n j hn, bit_num]
        have HC := Lib.hid (codeL_low (o := 0) rfl n j)
        go_wp2
        go_roundw
        case rel => exact ⟨j + 1, by omega, by go_num, by rw [HD.out, bs_app, HC.out], by (repeat (first | with_reducible exact Up.refl _ | with_reducible assumption | with_reducible refine Up.set ?_ (by first | exact Nat.le_refl _ | (simp only []; omega) | (simp; omega)) _ | with_reducible refine Up.alloc ?_ _ | with_reducible refine Up.drew ?_ | refine Up.trans ?_ (by with_reducible assumption)))⟩
        case measure => simp [intOf]; omega
      · have e : j = wd := by omega
        subst e
        go_wp2
        go_ret
        exact ⟨rfl, hup⟩
  · have ho' : (o == 0) = false := by simpa using ho
    have HO := Lib.hid ho
    clear ho
    go_enter Tryz.func150, Tryz.ntmps150
    go_wp2
    go_loopw [7, 8] (fun out i wr => RelCd o n wd w out i wr) (fun _ i _ => wd - (intOf i).toNat)
    case atStart => exact ⟨0, Nat.zero_le _, rfl, by first | rfl | (unfold codeL; split <;> rfl), Up.refl _⟩
    case round =>
      obtain ⟨j, hj, rfl, rfl, hup⟩ := hrel
      have hcl := bs_size (codeL o n j)
      rw [codeL_length] at hcl
      have z1 := strOfNums_size
      by_cases hlt : j < wd
      · have HD : Hid (strOfNums [wrap64 (48 + bits .and .i64 ((n : Int) / 2 ^ j) 1) % 256] = bs [bitB n j]) := by unfold Hid; rw [digit_eq n j hn, bit_num]
        have HC := Lib.hid (codeL_high HO.out n j)
        go_wp2
        go_roundw
        case rel => exact ⟨j + 1, by omega, by go_num, by rw [HD.out, bs_app, HC.out], by (repeat (first | with_reducible exact Up.refl _ | with_reducible assumption | with_reducible refine Up.set ?_ (by first | exact Nat.le_refl _ | (simp only []; omega) | (simp; omega)) _ | with_reducible refine Up.alloc ?_ _ | with_reducible refine Up.drew ?_ | refine Up.trans ?_ (by with_reducible assumption)))⟩
        case measure => simp [intOf]; omega
      · have e : j = wd := by omega
        subst e
        go_wp2
        go_ret
        exact ⟨rfl, hup⟩
def numF (l : List UInt8) : Int := l.foldl (fun (n : Int) b => 2 * n + (b.toNat : Int) - 48) 0
theorem numF_snoc (l : List UInt8) (b : UInt8) : numF (l ++ [b]) = 2 * numF l + b.toNat - 48 := by simp [numF, List.foldl_append]
def isBits (l : List UInt8) : Prop := ∀ b ∈ l, b.toNat = 48 ∨ b.toNat = 49
theorem numF_bd {l : List UInt8} (h : isBits l) : 0 ≤ numF l ∧ numF l < ((2 ^ l.length : Nat) : Int) := by
  induction l using snoc_ind with
  | h0 => decide
  | h1 l b ih =>
    obtain ⟨h1, h2⟩ := ih fun x hx => h x (List.mem_append_left _ hx)
    have hb := h b (List.mem_append_right _ (List.mem_singleton.2 rfl))
    rw [numF_snoc, List.length_append, List.length_cons, List.length_nil, Nat.zero_add, Nat.pow_succ]
    omega
theorem isBits.take {l : List UInt8} (h : isBits l) (k : Nat) : isBits (l.take k) := fun b hb => h b (List.mem_of_mem_take hb)
theorem isBits.drop {l : List UInt8} (h : isBits l) (k : Nat) : isBits (l.drop k) := fun b hb => h b (List.mem_of_mem_drop hb)
theorem isBits.app {l m : List UInt8} (h : isBits l) (h' : isBits m) : isBits (l ++ m) := fun b hb => (List.mem_append.1 hb).elim (h b) (h' b)
theorem isBits.rev {l : List UInt8} (h : isBits l) : isBits l.reverse := fun b hb => h b (List.mem_reverse.1 hb)
theorem isBits_code (o : Int) (n wd : Nat) : isBits (codeL o n wd) := by
  have h : isBits (lowL n wd) := fun b hb => by
    simp only [lowL, List.mem_map, List.mem_range] at hb
    obtain ⟨i, -, rfl⟩ := hb
    rw [bitB_nat]; omega
  unfold codeL
  split
  · exact h
  · exact h.rev
def numL (o : Int) (l : List UInt8) : Int := if o = 0 then numF l.reverse else numF l
theorem numL_bd {o : Int} {l : List UInt8} (h : isBits l) : 0 ≤ numL o l ∧ numL o l < ((2 ^ l.length : Nat) : Int) := by
  unfold numL
  split
  · have := numF_bd h.rev; rwa [List.length_reverse] at this
  · exact numF_bd h
def RelNu (f : Nat → Int) (n : Nat) (t i : Value) : Prop := ∃ j : Nat, j ≤ n ∧ i = .int .i64 j ∧ t = .int .i64 (f j)
theorem pow_len {k n : Nat} (h : k ≤ n) (hn : n ≤ 16) : 2 ^ k ≤ 65536 := by
  have : 2 ^ k ≤ 2 ^ 16 := Nat.pow_le_pow_right (by decide) (by omega)
  simpa using this
set_option maxRecDepth 100000 in
set_option maxHeartbeats 1000000 in
theorem l1Number_any (o : Int) (s : ByteArray) (w : World) (hb : isBits s.data.toList) (hs : s.size ≤ 16) :
    Calls Tryz.prog 111  #[.int .i64 o, .string s] w fun e w' => e = .returned (.int .i64 (numL o s.data.toList)) ∧ w = w' := by
  have hlen := ba_len s
  by_cases ho : o = 0
  · have hE : Hid (numL o s.data.toList = numF s.data.toList.reverse) := by unfold Hid numL; rw [if_pos ho]
    rw [hE.out]
    have hstep : ∀ j, j < s.size → numF (s.data.toList.reverse.take (j + 1)) = 2 * numF (s.data.toList.reverse.take j) + (s.data.toList[s.size - 1 - j]?.getD 0).toNat - 48 := fun j hj => by
      have hj' : j < s.data.toList.reverse.length := by rw [List.length_reverse]; omega
      rw [List.take_succ_eq_append_getElem hj', numF_snoc, List.getElem_reverse, List.getElem?_eq_getElem (by omega)]
      simp only [hlen, Option.getD_some]
    have hbd := fun j => numF_bd (hb.rev.take j)
    have hfin : numF (s.data.toList.reverse.take s.size) = numF s.data.toList.reverse := by rw [List.take_of_length_le (by rw [List.length_reverse]; omega)]
    have hlr : ∀ j, (s.data.toList.reverse.take j).length ≤ j := fun j => by rw [List.length_take]; omega
    generalize hf : (fun j => numF (s.data.toList.reverse.take j)) = f
    have hf' : ∀ j, numF (s.data.toList.reverse.take j) = f j := fun j => by rw [← hf]
    simp only [hf'] at hstep hbd hfin
    have hf0 : f 0 = 0 := by rw [← hf']; rfl
    have HS := Lib.hid hstep
    have HB := Lib.hid hbd
    have HF := Lib.hid hfin
    have HBi := Lib.hid hb
    clear hstep hbd hfin hf hf' hb hE
    subst ho
    go_enter Tryz.func111, Tryz.ntmps111
    go_wp2
    go_loop [5, 6] (fun t i => RelNu f s.size t i) (fun _ i => s.size - (intOf i).toNat)
    case atStart => exact ⟨0, Nat.zero_le _, rfl, by rw [hf0]⟩
    case round =>
      obtain ⟨j, hj, rfl, rfl⟩ := hrel
      have h1 := (HB.out j).1
      have h2 : f j < 65536 := by
        have := (HB.out j).2
        have h3 := pow_len (Nat.le_trans (hlr j) hj) hs
        omega
      by_cases hlt : j < s.size
      · have hu := u8_bd s[s.size - 1 - j]
        have HG : Hid (f (j + 1) = 2 * f j + (s[s.size - 1 - j].toNat : Int) - 48) := by
          have h5 := HS.out j hlt
          rw [List.getElem?_eq_getElem (by omega), Option.getD_some] at h5
          exact h5
        clear hf0
        generalize f j = fj at *
        go_wp2
        go_round
        case rel => exact ⟨j + 1, by omega, by go_num, by rw [HG.out]⟩
        case measure => simp [intOf]; omega
      · have e : j = s.size := by omega
        subst e
        go_wp2
        go_ret
        exact ⟨ret_int HF.out, rfl⟩
  · have hE : Hid (numL o s.data.toList = numF s.data.toList) := by unfold Hid numL; rw [if_neg ho]
    rw [hE.out]
    have hstep : ∀ j, j < s.size → numF (s.data.toList.take (j + 1)) = 2 * numF (s.data.toList.take j) + (s.data.toList[j]?.getD 0).toNat - 48 := fun j hj => by
      have hj' : j < s.data.toList.length := by omega
      rw [List.take_succ_eq_append_getElem hj', numF_snoc, List.getElem?_eq_getElem hj']
      simp only [Option.getD_some]
    have hbd := fun j => numF_bd (hb.take j)
    have hfin : numF (s.data.toList.take s.size) = numF s.data.toList := by rw [List.take_of_length_le (by omega)]
    have hlr : ∀ j, (s.data.toList.take j).length ≤ j := fun j => by rw [List.length_take]; omega
    generalize hf : (fun j => numF (s.data.toList.take j)) = f
    have hf' : ∀ j, numF (s.data.toList.take j) = f j := fun j => by rw [← hf]
    simp only [hf'] at hstep hbd hfin
    have hf0 : f 0 = 0 := by rw [← hf']; rfl
    have HS := Lib.hid hstep
    have HB := Lib.hid hbd
    have HF := Lib.hid hfin
    have ho' : (o == 0) = false := by simpa using ho
    clear hstep hbd hfin hf hf' hb hE ho
    go_enter Tryz.func111, Tryz.ntmps111
    go_wp2
    go_loop [5, 6] (fun t i => RelNu f s.size t i) (fun _ i => s.size - (intOf i).toNat)
    case atStart => exact ⟨0, Nat.zero_le _, rfl, by rw [hf0]⟩
    case round =>
      obtain ⟨j, hj, rfl, rfl⟩ := hrel
      have h1 := (HB.out j).1
      have h2 : f j < 65536 := by
        have := (HB.out j).2
        have h3 := pow_len (Nat.le_trans (hlr j) hj) hs
        omega
      by_cases hlt : j < s.size
      · have hu := u8_bd s[j]
        have HG : Hid (f (j + 1) = 2 * f j + (s[j].toNat : Int) - 48) := by
          have h5 := HS.out j hlt
          rw [List.getElem?_eq_getElem (by omega), Option.getD_some] at h5
          exact h5
        clear hf0
        generalize f j = fj at *
        go_wp2
        go_round
        case rel => exact ⟨j + 1, by omega, by go_num, by rw [HG.out]⟩
        case measure => simp [intOf]; omega
      · have e : j = s.size := by omega
        subst e
        go_wp2
        go_ret
        exact ⟨ret_int HF.out, rfl⟩
def rep (n : Nat) (l : List UInt8) : List UInt8 := (List.replicate n l).flatten
theorem rep_zero (l : List UInt8) : rep 0 l = [] := rfl
theorem rep_succ (n : Nat) (l : List UInt8) : rep (n + 1) l = l ++ rep n l := by simp [rep, List.replicate_succ]
theorem rep_even (m : Nat) (l : List UInt8) : rep (2 * m) l = rep m (l ++ l) := by
  induction m with
  | zero => rfl
  | succ m ih => rw [show 2 * (m + 1) = 2 * m + 1 + 1 by omega, rep_succ, rep_succ, ih, rep_succ, List.append_assoc]
theorem rep_length (n : Nat) (l : List UInt8) : (rep n l).length = n * l.length := by
  induction n with
  | zero => simp [rep]
  | succ n ih => rw [rep_succ, List.length_append, ih, Nat.succ_mul]; omega
theorem half_mul (k a : Nat) : k / 2 * (a + a) ≤ k * a := by
  have h : k / 2 * (a + a) = (k / 2 * 2) * a := by rw [Nat.mul_assoc, Nat.two_mul]
  rw [h]
  exact Nat.mul_le_mul_right _ (by omega)
theorem pos_mul {k a : Nat} (h : 0 < k) : a ≤ k * a := Nat.le_mul_of_pos_left a h
structure ManyAt (T : List UInt8) (k : Nat) (l o : List UInt8) : Prop where
  tot : o ++ rep k l = T
  bd : o.length + k * l.length ≤ 1048576
  len : l.length ≤ 2097152
theorem ManyAt.step {T : List UInt8} {k : Nat} {l o : List UInt8} (h : ManyAt T k l o) (hk : 0 < k) : ManyAt T (k / 2) (l ++ l) (if k % 2 = 1 then o ++ l else o) := by
  have h1 := h.bd
  have h2 := half_mul k l.length
  have h3 := pos_mul (a := l.length) hk
  by_cases hp : k % 2 = 1
  · rw [if_pos hp]
    have hk2 : k = 2 * (k / 2) + 1 := by omega
    refine ⟨?_, ?_, by rw [List.length_append]; omega⟩
    · rw [← h.tot, ← rep_even, List.append_assoc, ← rep_succ, ← hk2]
    · have h4 : k / 2 * (l.length + l.length) + l.length = k * l.length := by
        conv => rhs; rw [hk2]
        rw [Nat.add_mul, Nat.one_mul, Nat.mul_comm 2 (k / 2), Nat.mul_assoc, Nat.two_mul]
      rw [List.length_append, List.length_append]; omega
  · rw [if_neg hp]
    have hk2 : k = 2 * (k / 2) := by omega
    refine ⟨?_, by rw [List.length_append]; omega, by rw [List.length_append]; omega⟩
    rw [← h.tot, ← rep_even, ← hk2]
def RelMn (T : List UInt8) (s n o : Value) : Prop := ∃ (k : Nat) (l out : List UInt8), s = .string (bs l) ∧ n = .int .i64 k ∧ o = .string (bs out) ∧ k ≤ 1048576 ∧ ManyAt T k l out
set_option maxRecDepth 100000 in
set_option maxHeartbeats 1000000 in
theorem l9Many_any (s : ByteArray) (n : Nat) (w : World) (hn : n ≤ 1048576) (hb : n * s.size ≤ 1048576) (hs : s.size ≤ 1048576) :
    Calls Tryz.prog 87  #[.string s, .int .i64 n] w fun e w' => e = .returned (.string (bs (rep n s.data.toList))) ∧ w = w' := by
  have hlen := ba_len s
  have HM : Hid (ManyAt (rep n s.data.toList) n s.data.toList []) := ⟨by simp, by simp; omega, by omega⟩
  have HS : Hid (s = bs s.data.toList) := (bs_self s).symm
  generalize rep n s.data.toList = T at *
  clear hb
  go_enter Tryz.func87, Tryz.ntmps87
  go_wp2
  go_loop [0, 1, 5] (fun s n o => RelMn T s n o) (fun _ n _ => (intOf n).toNat)
  case atStart => exact ⟨n, s.data.toList, [], congrArg Value.string HS.out, rfl, rfl, hn, HM.out⟩
  case round =>
    clear HM HS
    obtain ⟨k, l, out, rfl, rfl, rfl, hk, hM⟩ := hrel
    have h1 := hM.bd
    have h2 := hM.len
    have hz1 := bs_size l
    have hz2 := bs_size out
    have HM := Lib.hid hM
    clear hM
    have h1' : out.length ≤ 1048576 := by omega
    clear h1
    by_cases hk0 : 0 < k
    · have hst := HM.out.step hk0
      by_cases hp : k % 2 = 1
      · rw [if_pos hp] at hst
        have HST := Lib.hid hst
        clear hst
        have hp' : (k : Int) % 2 = 1 := by omega
        clear hp
        go_wp2
        go_round
        case rel => exact ⟨k / 2, l ++ l, out ++ l, by rw [bs_app], by go_num, by rw [bs_app], by omega, HST.out⟩
        case measure => simp [intOf]; omega
      · rw [if_neg hp] at hst
        have HST := Lib.hid hst
        clear hst
        have hp' : ((k : Int) % 2 == 1) = false := by simp; omega
        clear hp
        go_wp2
        go_round
        case rel => exact ⟨k / 2, l ++ l, out, by rw [bs_app], by go_num, rfl, by omega, HST.out⟩
        case measure => simp [intOf]; omega
    · have e : k = 0 := by omega
      subst e
      have HT : Hid (out = T) := by have := HM.out.tot; rw [rep_zero, List.append_nil] at this; exact this
      go_wp2
      go_ret
      exact ⟨ret_str (by rw [HT.out]), rfl⟩
end Go.Proofs.YtekogcjdaolcbaaGreatDoor

/- Walks of the reference's functions that put bits into bytes. Conditions: all bytes are bits; the length is bounded. -/
namespace Go.Proofs.YtekogcjdaolcbaaGreatDoor
open Go Go.RowKit
def padL (l : List UInt8) : List UInt8 := l ++ List.replicate ((8 - l.length % 8) % 8) 48
theorem padL_length (l : List UInt8) : (padL l).length = 8 * ((l.length + 7) / 8) := by
  unfold padL; rw [List.length_append, List.length_replicate]; omega
theorem rep_one (n : Nat) (b : UInt8) : rep n [b] = List.replicate n b := by
  induction n with
  | zero => rfl
  | succ n ih => rw [rep_succ, ih]; rfl
theorem isBits_pad {l : List UInt8} (h : isBits l) : isBits (padL l) := h.app fun b hb => by rw [List.mem_replicate] at hb; rw [hb.2]; exact .inl rfl
set_option maxRecDepth 100000 in
set_option maxHeartbeats 1000000 in
theorem l1Pad_any (s : ByteArray) (w : World) (hs : s.size ≤ 1048576) :
    Calls Tryz.prog 110  #[.string s] w fun e w' => e = .returned (.string (bs (padL s.data.toList))) ∧ w = w' := by
  have hlen := ba_len s
  have cM := fun w => l9Many_any ⟨#[48]⟩ ((8 - s.size % 8) % 8) w (by omega) (by show _ * 1 ≤ _; omega) (by show 1 ≤ _; omega)
  have e1 : (⟨#[48]⟩ : ByteArray).data.toList = [48] := rfl
  rw [e1, rep_one] at cM
  have hz := bs_size (List.replicate ((8 - s.size % 8) % 8) 48)
  rw [List.length_replicate] at hz
  have HR : Hid (s ++ bs (List.replicate ((8 - s.size % 8) % 8) 48) = bs (padL s.data.toList)) := by
    unfold Hid padL
    rw [hlen, ← bs_app, bs_self]
  have hk : (8 - s.size % 8) % 8 ≤ 7 := by omega
  have hkk : ((8 : Int) - (s.size : Int) % 8) % 8 = ((8 - s.size % 8) % 8 : Nat) := by omega
  generalize (8 - s.size % 8) % 8 = k at *
  clear e1
  go_enter Tryz.func110, Tryz.ntmps110
  go_wp2_with ((go_at_call 87; (with_reducible refine (cM _).mono ?_); rintro e w' ⟨rfl, rfl⟩))
  go_ret
  exact ⟨ret_str (by rw [HR.out]), rfl⟩
def byteN (o : Int) (l : List UInt8) (i : Nat) : UInt8 := ub (numL o ((l.drop (8 * i)).take 8))
def packL (o : Int) (l : List UInt8) : List UInt8 := (List.range ((padL l).length / 8)).map (byteN o (padL l))
theorem packL_length (o : Int) (l : List UInt8) : (packL o l).length = (l.length + 7) / 8 := by unfold packL; rw [List.length_map, List.length_range, padL_length]; omega
def midU (l : List UInt8) (k : Nat) : List UInt8 := l.take k ++ List.replicate (l.length - k) 0
theorem midU_zero (l : List UInt8) : midU l 0 = List.replicate l.length 0 := by simp [midU]
theorem midU_all (l : List UInt8) : midU l l.length = l := by simp [midU]
theorem midU_set (l : List UInt8) (k : Nat) (h : k < l.length) : (midU l k).set k l[k] = midU l (k + 1) := by
  have e : List.replicate (l.length - k) (0 : UInt8) = 0 :: List.replicate (l.length - (k + 1)) 0 := by
    rw [show l.length - k = (l.length - (k + 1)) + 1 by omega]; rfl
  unfold midU
  have e2 : k - (l.take k).length = 0 := by rw [List.length_take]; omega
  rw [e, List.take_succ_eq_append_getElem h, List.set_append_right _ _ (by rw [List.length_take]; omega), e2, List.set_cons_zero, List.append_assoc]
  rfl
theorem midU_at (l : List UInt8) (k : Nat) (h : k < l.length) : (midU l k)[k]? = some 0 := by
  unfold midU
  rw [List.getElem?_append_right (by rw [List.length_take]; omega), List.getElem?_replicate, if_pos (by rw [List.length_take]; omega)]
theorem bs_pad8 (l : List UInt8) (i : Nat) : (bs l).extract (8 * i) (8 * i + 8) = bs ((l.drop (8 * i)).take 8) := by rw [bs_ext, show 8 * i + 8 - 8 * i = 8 by omega]
def RelPk (l : List UInt8) (w : World) (i : Value) (wr : World) : Prop := ∃ k : Nat, k ≤ l.length ∧ i = .int .i64 k ∧ Up w wr ∧ wr.ownsRow w.heap.size 5 1 (.slice (some ⟨w.heap.size, 0, none⟩) l.length l.length) l.length (cellsU (midU l k))
theorem made_list (n : Nat) : (madeCells #[Value.int .u8 0] n).toList.take n = List.replicate n (Value.int .u8 0) := by
  apply List.ext_getElem
  · simp [madeCells]
  · intro i h1 h2
    simp [madeCells, Nat.mod_one]
theorem made_bytes (w : World) (n : Nat) (hn : n ≤ maxLen) : (w.alloc (.cells (madeCells #[.int .u8 0] n) 5)).ownsRow w.heap.size 5 1 (.slice (some ⟨w.heap.size, 0, none⟩) n n) n (cellsU (List.replicate n 0)) := by
  refine ⟨by simp [cellsU], .inr ⟨w.heap.size, n, _, rfl, Nat.le_refl _, (MapKept.heap_alloc w _).1, Nat.le_refl _, hn, ?_, ?_⟩⟩
  · simp [madeCells]
  · rw [Nat.mul_one, made_list]; simp [cellsU]
set_option maxRecDepth 100000 in
set_option maxHeartbeats 2000000 in
theorem l1Pack_any (o : Int) (s : ByteArray) (w : World) (hb : isBits s.data.toList) (hs : s.size ≤ 1048576) :
    Calls Tryz.prog 47  #[.int .i64 o, .string s] w (Same (.string (bs (packL o s.data.toList))) w) := by
  obtain ⟨i0, hi0, hz0, hz1, hz2⟩ := info_parts infoByte
  have hmk : ∀ (w : World) (n : Nat), n ≤ 1048576 → (Instr.makeSlice 22 (.int .i64 (n : Int)) (.int .i64 (n : Int))).run Tryz.prog w = .ok (.slice (some ⟨w.heap.size, 0, none⟩) n n) (w.alloc (.cells (madeCells #[.int .u8 0] n) 5)) := fun w n hn => by
    have := run_make (P := Tryz.prog) w 22 5 i0 _ Tryz.underlying22 hi0 hz0 .i64 .i64 n n (by omega) (Int.le_refl _) (by rw [hz2]; omega) (by omega)
    rw [hz1] at this
    simpa [Value.cells] using this
  clear hz0 hz1 hz2 hi0
  have hlen := ba_len s
  have cP := fun w => l1Pad_any s w hs
  have hpl := padL_length s.data.toList
  have hpb := isBits_pad hb
  have hkl := packL_length o s.data.toList
  have hget : ∀ i (h : i < (packL o s.data.toList).length), (packL o s.data.toList)[i] = byteN o (padL s.data.toList) i := fun i h => by simp [packL]
  rw [hlen] at hpl hkl
  have hz := bs_size (padL s.data.toList)
  have HB := Lib.hid hpb
  have HG := Lib.hid hget
  clear hb hpb hget
  generalize packL o s.data.toList = pk at *
  generalize padL s.data.toList = pd at *
  have hpk : pd.length = 8 * pk.length := by omega
  have hkl' : ((pk.length : Nat) : Int) = ((s.size : Int) + 7) / 8 := by omega
  have hmk' := fun w => hmk w pk.length (by omega)
  rw [hkl'] at hmk'
  clear hmk hpl
  go_enter Tryz.func47, Tryz.ntmps47
  go_wp2_with ((go_at_call 110; (with_reducible refine (cP _).mono ?_); rintro e w' ⟨rfl, rfl⟩))
  have hkn : pk.length = (s.size + 7) / 8 := hkl
  rw [← hkn]
  have hpk2 : pk.length ≤ 131072 := by omega
  clear hkn hkl hkl' hmk' hlen
  go_loopw [7] (fun i wr => RelPk pk w i wr) (fun i _ => pk.length - (intOf i).toNat)
  case atStart => exact ⟨0, Nat.zero_le _, rfl, (Up.refl _).alloc _, by rw [midU_zero]; exact made_bytes w _ (by unfold maxLen; omega)⟩
  case round =>
    obtain ⟨j, hj, rfl, hup, ho⟩ := hrel
    by_cases hlt : j < pk.length
    · have hrl : w.heap.size < wr.heap.size := (ho.lt _ rfl).2
      have d0 := ownsRow_cell ho (cellsU_at (midU_at pk j hlt))
      have f0 := ownsRow_free ho j
      have hb8 : isBits ((pd.drop (8 * j)).take 8) := (HB.out.drop _).take _
      have hl8 : ((pd.drop (8 * j)).take 8).length = 8 := by rw [List.length_take, List.length_drop]; omega
      have HE : Hid ((bs pd).extract (8 * j) (8 * j + 8) = bs ((pd.drop (8 * j)).take 8)) := bs_pad8 pd j
      have cN := fun w => l1Number_any o (bs ((pd.drop (8 * j)).take 8)) w (by rw [bs_data]; exact hb8) (by rw [bs_size, hl8]; omega)
      rw [bs_data, ← HE.out] at cN
      have hnb := numL_bd (o := o) hb8
      rw [hl8] at hnb
      have hn1 := hnb.1
      have hn2 : numL o ((pd.drop (8 * j)).take 8) < 256 := by have := hnb.2; simpa using this
      have HPK : Hid (((pk[j]).toNat : Int) = numL o ((pd.drop (8 * j)).take 8)) := by unfold Hid; rw [HG.out j hlt]; exact ub_nat hn1 hn2
      have HS := Lib.hid (midU_set pk j hlt)
      clear hb8 hnb hl8
      generalize numL o ((pd.drop (8 * j)).take 8) = nm at *
      go_wp2_with ((go_at_call 111; (with_reducible refine (cN _).mono ?_); rintro e w' ⟨rfl, rfl⟩))
      go_roundw
      case rel => exact ⟨j + 1, by omega, by go_num, hup.set (p := ⟨w.heap.size, j, none⟩) (Nat.le_refl _) _, by rw [← HS.out, ← cellsU_set, HPK.out]; exact ownsRow_set ho j _⟩
      case measure => simp [intOf]; omega
    · have e : j = pk.length := by omega
      subst e
      rw [midU_all] at ho
      have hconv := conv_row ho rfl
      go_wp2
      go_ret
      exact ⟨rfl, hup⟩
end Go.Proofs.YtekogcjdaolcbaaGreatDoor

/- Walk of the reference's l2Pack. Conditions: what is known is valid (KnD.Ok) and can be read; each code has a width. -/
namespace Go.Proofs.YtekogcjdaolcbaaGreatDoor
open Go Go.RowKit
def packC (o : Int) : List Int → List Int → List UInt8
  | x :: xs, w :: ws => codeL o x.toNat w.toNat ++ packC o xs ws
  | _, _ => []
theorem isBits_packC (o : Int) : ∀ (xs ws : List Int), isBits (packC o xs ws)
  | [], ws => by simp [packC, isBits]
  | _ :: _, [] => by simp [packC, isBits]
  | x :: xs, w :: ws => by simp only [packC]; exact (isBits_code _ _ _).app (isBits_packC o xs ws)
structure PkAt (k : KnD) (v : Value) (codes ws : List Int) (vw : Value) (w : World) (i : Nat) (out : Value) (wr : World) : Prop where
  le : i ≤ codes.length
  kn : KnAt w.heap.size k v wr
  wid : ownI wr (w.heap.size + 1) vw ws
  own : ownU wr (w.heap.size + 1) out (packC k.set.ord (codes.take i) (ws.take i))
  up : Up w wr
theorem RdI.at {lo : Nat} {w : World} {a : Option Addr} {n c : Nat} {l : List Int} (h : RdI lo w (.slice a n c) l) {i : Nat} (hi : i < l.length) : ∃ b off, a = some ⟨b, off, none⟩ ∧ b < w.heap.size ∧ w.cell? ⟨b, off + i, none⟩ = some (.int .i64 l[i]) ∧ n = l.length ∧ n ≤ c ∧ c ≤ maxLen ∧ lo ≤ b := by
  obtain ⟨a', c', e, h1, h2, h3⟩ := h
  cases e
  obtain ⟨b, off, e1, e2, e3, e4⟩ := h3 (by omega)
  exact ⟨b, off, e1, e3, e4 i _ (List.getElem?_eq_getElem hi), rfl, h1, h2, e2⟩
end Go.Proofs.YtekogcjdaolcbaaGreatDoor

/- Walk of the reference's l2Greedy. Conditions: what is known is valid and can be read; the data fits. -/
namespace Go.Proofs.YtekogcjdaolcbaaGreatDoor
open Go Go.RowKit
def KnD.full (k : KnD) : Bool := decide (lastC k.set < k.next) && decide (k.base < k.ps.length)
def greedyN : Nat → KnD → List UInt8 → List Int
  | 0, k, _ => [(k.c : Int) + 1]
  | n + 1, k, d => if d = [] then [(k.c : Int) + 1] else
      k.find (k.longest d) :: (if (k.after (k.find (k.longest d))).full = true ∧ d.drop (k.longest d).length ≠ [] then (k.c : Int) :: greedyN n (k.after (k.find (k.longest d))).cleared (d.drop (k.longest d).length) else greedyN n (k.after (k.find (k.longest d))) (d.drop (k.longest d).length))
def greedy (k : KnD) (d : List UInt8) : List Int := (k.c : Int) :: greedyN d.length k.cleared d
theorem greedyN_nil (n : Nat) (k : KnD) : greedyN n k [] = [(k.c : Int) + 1] := by cases n <;> simp [greedyN]
theorem greedyN_full {n : Nat} {k : KnD} {d : List UInt8} {x : Int} {w : List UInt8} (hd : d ≠ []) (hw : k.longest d = w) (hx : k.find w = x) (hf : (k.after x).full = true) (hn : d.drop w.length ≠ []) : greedyN (n + 1) k d = x :: (k.c : Int) :: greedyN n (k.after x).cleared (d.drop w.length) := by
  subst hw; subst hx
  rw [greedyN, if_neg hd, if_pos ⟨hf, hn⟩]
theorem greedyN_more {n : Nat} {k : KnD} {d : List UInt8} {x : Int} {w : List UInt8} (hd : d ≠ []) (hw : k.longest d = w) (hx : k.find w = x) (hf : ¬ ((k.after x).full = true ∧ d.drop w.length ≠ [])) : greedyN (n + 1) k d = x :: greedyN n (k.after x) (d.drop w.length) := by
  subst hw; subst hx
  rw [greedyN, if_neg hd, if_neg hf]
structure GrAt (T : List Int) (w : World) (k : KnD) (d : List UInt8) (v : Value) (n : Nat) (acc : List Int) (out : Value) (wr : World) : Prop where
  len : d.length ≤ n
  le : d.length ≤ 2000
  sum : acc.length + 2 * d.length ≤ 4001
  tot : acc ++ greedyN n k d = T
  ok : k.Ok
  lit : ∀ b ∈ d, b.toNat < k.c
  kn : KnAt w.heap.size k v wr
  pr : ownPr wr (w.heap.size + 1) v k.ps
  own : ownI wr (w.heap.size + 1) out acc
  up : Up w wr
theorem GrAt.step {T : List Int} {w : World} {k : KnD} {d : List UInt8} {v : Value} {m : Nat} {acc : List Int} {out : Value} {wr : World} (h : GrAt T w k d v (m + 1) acc out wr) (hd : d ≠ []) {x : Int} {wl : List UInt8} (hw : k.longest d = wl) (hx : k.find wl = x)
    (hf : ¬ ((k.after x).full = true ∧ d.drop wl.length ≠ [])) {W : World} {v5 out4 : Value} (h1 : KnAt w.heap.size (k.after x) v5 W) (h2 : ownPr W (w.heap.size + 1) v5 (k.after x).ps) (h3 : ownI W (w.heap.size + 1) out4 (acc ++ [x])) (h4 : Up w W) : GrAt T w (k.after x) (d.drop wl.length) v5 m (acc ++ [x]) out4 W := by
  have hp := KnD.longest_pos (k := k) hd
  have hl := KnD.longest_le (k := k) d
  have hfa := KnD.find_any h.ok hd h.lit
  rw [hw] at hp hl hfa
  rw [hx] at hfa
  have h5 := h.len; have h6 := h.le; have h7 := h.sum
  refine ⟨by rw [List.length_drop]; omega, by rw [List.length_drop]; omega, by rw [List.length_drop, List.length_append]; simp; omega, ?_, KnD.after_ok h.ok hfa.1, fun b hb => h.lit b (List.mem_of_mem_drop hb), h1, h2, h3, h4⟩
  rw [← h.tot, greedyN_more hd hw hx hf, List.append_assoc]; rfl
end Go.Proofs.YtekogcjdaolcbaaGreatDoor

/- Plain: following the codes of the longest words gives the data again, and one width for each code. Conditions: what is known is valid (KnD.Ok), the data fits. -/
namespace Go.Proofs.YtekogcjdaolcbaaGreatDoor
open Go.RowKit
theorem KnD.fol_ne {k : KnD} (h : k.Ok) {x : Int} (hf : k.follows x = true) : x ≠ (k.c : Int) ∧ x ≠ (k.c : Int) + 1 := by
  rcases KnD.follows_cases h hf with hc | ⟨hg, rfl, hl⟩
  · rw [codeOk_iff] at hc; omega
  · unfold KnD.next; omega
theorem walk_greedyN : ∀ (n : Nat) (k : KnD) (d : List UInt8) (ws : List Int) (dat : List UInt8), k.Ok → (∀ b ∈ d, b.toNat < k.c) → d.length ≤ n → dat.length + d.length ≤ 2000 →
    ∃ W : List Int, walkN k (greedyN n k d) ws dat = ⟨ws ++ W, dat ++ d, true⟩ ∧ W.length = (greedyN n k d).length ∧ (∀ w ∈ W, 1 ≤ w ∧ w ≤ 10) ∧ (∀ x ∈ greedyN n k d, 0 ≤ x ∧ x ≤ 1024) := by
  intro n
  induction n with
  | zero =>
    intro k d ws dat hk hl hn hd
    have hb := hk.c_bd
    have hw := KnD.width_bd hk
    have e : d = [] := List.length_eq_zero_iff.1 (by omega)
    subst e
    refine ⟨[(k.width : Int)], ?_, rfl, ?_, ?_⟩
    · show walkN k [(k.c : Int) + 1] ws dat = _
      rw [walkN_end rfl]; simp
    · intro w hw'; simp only [List.mem_singleton] at hw'; subst hw'; omega
    · intro x hx; simp only [greedyN, List.mem_singleton] at hx; subst hx; omega
  | succ n ih =>
    intro k d ws dat hk hl hn hd
    have hb := hk.c_bd
    have hw := KnD.width_bd hk
    by_cases e : d = []
    · subst e
      rw [greedyN_nil]
      refine ⟨[(k.width : Int)], ?_, rfl, ?_, ?_⟩
      · rw [walkN_end rfl]; simp
      · intro w hw'; simp only [List.mem_singleton] at hw'; subst hw'; omega
      · intro x hx; simp only [List.mem_singleton] at hx; subst hx; omega
    · obtain ⟨hf, ha⟩ := KnD.find_any hk e hl
      have hfb := KnD.find_bd hk hf
      obtain ⟨n1, n2⟩ := KnD.fol_ne hk hf
      have hp := KnD.longest_pos (k := k) e
      have hle := KnD.longest_le (k := k) d
      have htk := KnD.longest_take (k := k) d
      have hok2 := KnD.after_ok hk hf
      have hjoin : k.longest d ++ d.drop (k.longest d).length = d := by conv => lhs; arg 1; rw [← htk]
                                                                        exact List.take_append_drop _ _
      have hl2 : ∀ b ∈ d.drop (k.longest d).length, b.toNat < k.c := fun b hb => hl b (List.mem_of_mem_drop hb)
      have hln : (d.drop (k.longest d).length).length ≤ n := by rw [List.length_drop]; omega
      have hd2 : (dat ++ k.longest d).length + (d.drop (k.longest d).length).length ≤ 2000 := by rw [List.length_drop, List.length_append]; omega
      by_cases hfull : (k.after (k.find (k.longest d))).full = true ∧ d.drop (k.longest d).length ≠ []
      · rw [greedyN_full e rfl rfl hfull.1 hfull.2]
        obtain ⟨W, h1, h2, h3, h4⟩ := ih (k.after (k.find (k.longest d))).cleared (d.drop (k.longest d).length) (ws ++ [(k.width : Int)] ++ [((k.after (k.find (k.longest d))).width : Int)]) (dat ++ k.longest d) (KnD.cleared_ok hok2) hl2 hln hd2
        have hw2 := KnD.width_bd hok2
        refine ⟨(k.width : Int) :: ((k.after (k.find (k.longest d))).width : Int) :: W, ?_, by simp [h2], ?_, ?_⟩
        · rw [walkN_word n2 n1 hf (by omega), ha, walkN_clear (k := k.after (k.find (k.longest d))) (x := (k.c : Int)) rfl, h1]
          simp [hjoin]
        · intro w hw'
          simp only [List.mem_cons] at hw'
          rcases hw' with rfl | rfl | hw'
          · omega
          · omega
          · exact h3 w hw'
        · intro x hx
          simp only [List.mem_cons] at hx
          rcases hx with rfl | rfl | hx
          · omega
          · omega
          · exact h4 x hx
      · rw [greedyN_more e rfl rfl hfull]
        obtain ⟨W, h1, h2, h3, h4⟩ := ih (k.after (k.find (k.longest d))) (d.drop (k.longest d).length) (ws ++ [(k.width : Int)]) (dat ++ k.longest d) hok2 hl2 hln hd2
        refine ⟨(k.width : Int) :: W, ?_, by simp [h2], ?_, ?_⟩
        · rw [walkN_word n2 n1 hf (by omega), ha, h1]
          simp [hjoin]
        · intro w hw'
          simp only [List.mem_cons] at hw'
          rcases hw' with rfl | hw'
          · omega
          · exact h3 w hw'
        · intro x hx
          simp only [List.mem_cons] at hx
          rcases hx with rfl | hx
          · omega
          · exact h4 x hx
theorem walk_greedy {k : KnD} {d : List UInt8} (hk : k.Ok) (hl : ∀ b ∈ d, b.toNat < k.c) (hd : d.length ≤ 2000) :
    (walkN k (greedy k d) [] []).ws.length = (greedy k d).length ∧ (walkN k (greedy k d) [] []).data = d ∧ (walkN k (greedy k d) [] []).ok = true ∧ (∀ w ∈ (walkN k (greedy k d) [] []).ws, 1 ≤ w ∧ w ≤ 10) ∧ (∀ x ∈ greedy k d, 0 ≤ x ∧ x ≤ 1024) := by
  obtain ⟨W, h1, h2, h3, h4⟩ := walk_greedyN d.length k.cleared d [(k.width : Int)] [] (KnD.cleared_ok hk) hl (Nat.le_refl _) (by simpa using hd)
  have hb := hk.c_bd
  have hw := KnD.width_bd hk
  have e : walkN k (greedy k d) [] [] = ⟨[(k.width : Int)] ++ W, [] ++ d, true⟩ := by
    unfold greedy
    rw [walkN_clear rfl, List.nil_append, h1]
  rw [e]
  refine ⟨by simp [greedy, h2], rfl, rfl, fun w hw' => ?_, fun x hx => ?_⟩
  · simp only [List.cons_append, List.nil_append, List.mem_cons] at hw'
    rcases hw' with rfl | hw'
    · omega
    · exact h3 w hw'
  · unfold greedy at hx
    simp only [List.mem_cons] at hx
    rcases hx with rfl | hx
    · omega
    · exact h4 x hx
end Go.Proofs.YtekogcjdaolcbaaGreatDoor

/- Walks of the reference's LearnKnown and StartWith. Conditions: as each says. -/
namespace Go.Proofs.YtekogcjdaolcbaaGreatDoor
open Go Go.RowKit
theorem fitsB_lits {s : SetD} {d : List UInt8} (h : fitsB s d = true) : setOk s = true ∧ d.length ≤ 2000 ∧ ∀ b ∈ d, b.toNat < clr s := by
  unfold fitsB at h
  simp only [Bool.and_eq_true, decide_eq_true_eq] at h
  refine ⟨h.1.1, h.1.2, fun b hb => ?_⟩
  have := h.2
  unfold litsL at this
  rw [List.all_eq_true] at this
  simpa using this b hb
end Go.Proofs.YtekogcjdaolcbaaGreatDoor

/- Walks of the reference's l2Compress, Compress and CompressWith. Conditions: what is known is valid and can be read; for CompressWith none but the strings' bound. -/
namespace Go.Proofs.YtekogcjdaolcbaaGreatDoor
open Go Go.RowKit
def compL (k : KnD) (d : List UInt8) : List UInt8 := packL k.set.ord (packC k.set.ord (greedy k d) (walkN k (greedy k d) [] []).ws)
def compO (k : KnD) (d : List UInt8) : Option (List UInt8) := if fitsB k.set d then some (compL k d) else none
def compW (s : SetD) (dict d : List UInt8) : Option (List UInt8) := if fitsB s dict then compO (learnK (startK s) dict) d else none
def optS (o : Option (List UInt8)) : Value := .tuple #[.string (bs (o.getD [])), .bool o.isSome]
end Go.Proofs.YtekogcjdaolcbaaGreatDoor

/- Walks of the reference's functions that make blocks and containers. Conditions: as each says; for the outer ones none but the strings' bound. -/
namespace Go.Proofs.YtekogcjdaolcbaaGreatDoor
open Go Go.RowKit
def blockD (s : SetD) (dict : List UInt8) (n : Int) (d : ByteArray) : BlkD := match compW s dict d.data.toList with
  | some st => if st.length < d.size then ⟨n, false, d.size, bs st⟩ else ⟨n, true, d.size, d⟩
  | none => ⟨n, true, d.size, d⟩
def textD (b : BlkD) : List UInt8 := (textB b.num b.raw b.size b.body).data.toList
def makeN (s : SetD) (dict : List UInt8) (size : Nat) : Nat → Int → List UInt8 → List UInt8
  | 0, _, _ => []
  | n + 1, f, d => if d = [] then [] else textD (blockD s dict f (bs (d.take size))) ++ makeN s dict size n (f + 1) (d.drop size)
theorem makeN_step {s : SetD} {dict : List UInt8} {size n : Nat} {f : Int} {d : List UInt8} (hd : d ≠ []) : makeN s dict size (n + 1) f d = textD (blockD s dict f (bs (d.take size))) ++ makeN s dict size n (f + 1) (d.drop size) := by rw [makeN, if_neg hd]
structure MkAt (T : List UInt8) (s : SetD) (dict : List UInt8) (size : Nat) (w : World) (m : Nat) (f : Int) (d acc : List UInt8) (n : Nat) (wr : World) : Prop where
  tot : acc ++ makeN s dict size n f d = T
  len : d.length ≤ n
  d2 : d.length ≤ 2000
  num : f = 40 - (m : Int)
  m40 : m ≤ 40
  fit : d.length ≤ m * size
  accl : acc.length + 74 * m ≤ 2960
  set : SetAt w.heap.size s.ord s.lit s.most wr
  up : Up w wr
theorem MkAt.step {T : List UInt8} {s : SetD} {dict : List UInt8} {size : Nat} {w : World} {m : Nat} {f : Int} {d acc : List UInt8} {n : Nat} {wr wq : World} (h : MkAt T s dict size w m f d acc n wr) (hd : d ≠ []) (hm : 1 ≤ m) (hn : 1 ≤ n) (hs : 1 ≤ size) (hu : Up wr wq)
    {td : List UInt8} (ht : td = textD (blockD s dict f (bs (d.take size)))) (htl : td.length ≤ 74) : MkAt T s dict size w (m - 1) (f + 1) (d.drop size) (acc ++ td) (n - 1) wq := by
  obtain ⟨m, rfl⟩ : ∃ m', m = m' + 1 := ⟨m - 1, by omega⟩
  obtain ⟨n, rfl⟩ : ∃ n', n = n' + 1 := ⟨n - 1, by omega⟩
  obtain ⟨h1, h2, h3, h4, h5, h6, h7, h8, h9⟩ := h
  have hl := List.length_pos_iff.2 hd
  refine ⟨?_, by rw [List.length_drop]; omega, by rw [List.length_drop]; omega, by omega, by omega, ?_, by rw [List.length_append]; omega, box_up hu h8, h9.trans hu⟩
  · rw [← h1, makeN_step hd, ht, List.append_assoc]; rfl
  · rw [Nat.succ_mul] at h6
    rw [List.length_drop]
    show _ ≤ m * size
    omega
end Go.Proofs.YtekogcjdaolcbaaGreatDoor

/- Walks of the reference's draws of dictionaries, settings and containers. Conditions: the reader is one (Rdr), its place is bounded; the setting is valid. -/
namespace Go.Proofs.YtekogcjdaolcbaaGreatDoor
open Go Go.RowKit
theorem l1Data_as (m : Int) (n : Nat) (hm : m = n) (rb : Nat) (B : Value) (s : SetD) (w : World) (N : Nat) (h : Rdr rb B w N) (hN : N ≤ 1000000000) (hn : n ≤ 1000) (hs : setOk s = true) :
    Calls Tryz.prog 30  #[.pointer (some ⟨rb, 0, none⟩), setV s, .int .i64 m] w (Drawn rb B 3010 (IsStr n) w) := by subst hm; exact l1Data_any rb B s n w N h hN hn hs
theorem Rdr.least {rb : Nat} {B : Value} {w : World} {N : Nat} (h : Rdr rb B w N) : ∃ p, p ≤ N ∧ Rdr rb B w p ∧ Hid (∀ N', Rdr rb B w N' → p ≤ N') := by
  obtain ⟨⟨p, h1, h2⟩, h3⟩ := h
  refine ⟨p, h1, ⟨⟨p, Nat.le_refl _, h2⟩, h3⟩, fun N' h' => ?_⟩
  obtain ⟨⟨q, g1, g2⟩, _⟩ := h'
  rw [h2] at g2
  simp at g2
  omega
theorem RdUp.made {rb : Nat} {B : Value} {w w' : World} {p C M : Nat} (hm : Hid (∀ N', Rdr rb B w N' → p ≤ N')) (hg : w.grownBy w' (some rb)) (hr : Rdr rb B w' M) (hM : M ≤ p + C) : RdUp rb B C w w' :=
  ⟨hg, fun N' h' => hr.mono (by have := hm N' h'; omega)⟩
end Go.Proofs.YtekogcjdaolcbaaGreatDoor

/- Walk of the reference's l1Data: its bytes are literals of the setting. Conditions: the reader is one, its place is bounded; the setting is valid. (Printed by gen/ddb.py.) -/
namespace Go.Proofs.YtekogcjdaolcbaaGreatDoor
open Go Go.RowKit
def IsStrB (n c : Nat) (v : Value) : Prop := ∃ s : ByteArray, v = .string s ∧ s.size ≤ n ∧ ∀ b ∈ s.data.toList, b.toNat < c
def RelDb (rb : Nat) (B : Value) (n c cc : Nat) (w : World) (out i : Value) (wr : World) : Prop := ∃ (l : List UInt8) (k : Nat), i = .int .i64 k ∧ l.length + k ≤ n ∧ ownU wr (w.heap.size + 1) out l ∧ RdUp rb B (c + 3 * l.length) w wr ∧ ∀ b ∈ l, b.toNat < cc
theorem snoc_lt {l : List UInt8} {cc : Nat} {y : Int} (h : ∀ b ∈ l, b.toNat < cc) (h0 : 0 ≤ y) (h1 : y < cc) : ∀ b ∈ l ++ [UInt8.ofNat y.toNat], b.toNat < cc := by
  intro b hb
  rcases List.mem_append.1 hb with h2 | h2
  · exact h b h2
  · rw [List.mem_singleton.1 h2]
    have : (UInt8.ofNat y.toNat).toNat ≤ y.toNat := by simp; exact Nat.mod_le _ _
    omega
set_option maxRecDepth 100000 in
set_option maxHeartbeats 8000000 in
theorem l1DataB_any (rb : Nat) (B : Value) (s : SetD) (n : Nat) (w : World) (N : Nat) (h : Rdr rb B w N) (hN : N ≤ 1000000000) (hn : n ≤ 1000) (hs : setOk s = true) :
    Calls Tryz.prog 30  #[.pointer (some ⟨rb, 0, none⟩), setV s, .int .i64 n] w (Drawn rb B 3010 (IsStrB n (clr s)) w) := by
  obtain ⟨cc, hcc⟩ : ∃ cc, Hid (cc = clr s) := ⟨_, rfl⟩
  have hpcc : ((clr s : Nat) : Int) ≤ (cc : Int) := by rw [hcc.out]; exact Int.le_refl _
  rw [show IsStrB n (clr s) = IsStrB n cc from by rw [hcc.out]]
  obtain ⟨i0, hib, hz0, hz1, hz2⟩ := info_parts infoByte
  have hmk := make_u8 n (by omega)
  have hlt := h.lt
  have HR := Lib.hid h
  have hne0 : ¬ w.heap.size = rb := by omega
  have hne1 : ¬ w.heap.size + 1 = rb := by omega
  have hU := RdUp.refl rb B 0 w
  have e1 : w.heap.size < w.heap.size + 1 := by omega
  have e2 : w.heap.size < w.heap.size + 1 + 1 := by omega
  have e3 : w.heap.size + 1 < w.heap.size + 1 + 1 := by omega
  have cK := fun wx => l1Clear_any s wx hs
  obtain ⟨hcb1, hcb2, -, -⟩ := clr_bd hs
  simp only [setV] at *
  clear hs
  have ho0 : ownU ((w.alloc (.cells #[.int .i64 s.ord, .int .i64 s.lit, .int .i64 s.most] 24)).alloc (.cells (madeCells #[.int .u8 0] n) 5)) (w.heap.size + 1) (.slice (some ⟨w.heap.size + 1, 0, none⟩) 0 n) [] := by
    have h0 := own_made0 (w := w.alloc (.cells #[.int .i64 s.ord, .int .i64 s.lit, .int .i64 s.most] 24)) (base := w.heap.size + 1) (n := n) (by simp) (by unfold maxLen; omega)
    rwa [size_alloc] at h0
  go_enter Tryz.func30, Tryz.ntmps30
  go_wp2_with ((go_at_call 86; (with_reducible refine (cK _).mono ?_); rintro e w1 ⟨rfl, U1⟩; have B1 := bcell U1; have Z1 := U1.size; (try simp at Z1); (try rw [Nat.add_one_le_iff] at Z1)))
  have ho1 := ownsRow_up ho0 U1
  have x0 : w.heap.size < w1.heap.size := by omega
  have x1 : w.heap.size < w1.heap.size + 1 := by omega
  go_wp2_with ((go_at_call 85; ((with_reducible refine (num_at ([2, 3, ((clr s : Nat) : Int), 1]) HR.out hU (by intro c hU; (repeat (first | with_reducible assumption | refine RdUp.ups ?_ (by with_reducible assumption) | with_reducible refine RdUp.set ?_ (by first | exact Nat.le_refl _ | (simp only []; omega) | (simp; omega)) _ | with_reducible refine RdUp.alloc ?_ _ | with_reducible refine RdUp.drew ?_ | with_reducible exact RdUp.of (Up.refl _)))) (by omega) (by first | rfl | (simp; done) | fail) (by first | rfl | (simp; done) | fail) (by first | rfl | (simp; done) | fail) (by simp) (by simp) (by first | rfl | (simp; done) | fail)).mono ?_); rintro e w' ⟨i, rfl, hi, hU, U⟩; have D := gcell U.1; have Z := U.1.size; (try simp at Z); (try have Y0 : w.heap.size < w'.heap.size := (by omega)); (try have Y1 : w.heap.size + 1 < w'.heap.size := (by omega)); (try have Y2 : w.heap.size + 1 + 1 < w'.heap.size := (by omega)); (try have X0 : w.heap.size < w'.heap.size + 1 := (by omega)); (try have X1 : w.heap.size + 1 < w'.heap.size + 1 := (by omega)); (try have X2 : w.heap.size + 1 + 1 < w'.heap.size + 1 := (by omega)); ((have hp1 : 1 ≤ i := (by simp at hi; omega)); (have hp2 : i ≤ 256 := (by simp at hi; omega)); clear hi))))
  have ho := own_rd (ho1.alloc _) (by omega) U.1
  refine (cK _).mono ?_
  rintro e w3 ⟨rfl, U3⟩
  have ho := ownsRow_up ho U3
  have hz3 := U3.size
  have hU := hU.ups U3
  clear D U Z Y0 X0 B1 Z1 U1 U3 ho1 ho0
  rcases Int.lt_or_le (clr s : Int) i with hle | hle
  · have hq1 : (1 : Int) ≤ (clr s : Int) := by omega
    have hq2 : (clr s : Int) ≤ 256 := by omega
    have hrb : rb < w.heap.size + 1 := by omega
    clear hcb1 hcb2
    generalize ((clr s : Nat) : Int) = part at *
    go_wp2_with (first | (go_at_call 31; ((with_reducible refine (pick_at (n := 7) HR.out hU (by intro c hU; (repeat (first | with_reducible assumption | refine RdUp.ups ?_ (by with_reducible assumption) | with_reducible refine RdUp.set ?_ (by first | exact Nat.le_refl _ | (simp only []; omega) | (simp; omega)) _ | with_reducible refine RdUp.alloc ?_ _ | with_reducible refine RdUp.drew ?_ | with_reducible exact RdUp.of (Up.refl _)))) (by omega)).mono ?_); rintro e w' ⟨per, rfl, per0, per1, hU, U⟩; have D := gcell U.1; have Z := U.1.size; (try simp at Z); (try have Y0 : w.heap.size < w'.heap.size := (by omega)); (try have Y1 : w.heap.size + 1 < w'.heap.size := (by omega)); (try have Y2 : w.heap.size + 1 + 1 < w'.heap.size := (by omega)); (try have X0 : w.heap.size < w'.heap.size + 1 := (by omega)); (try have X1 : w.heap.size + 1 < w'.heap.size + 1 := (by omega)); (try have X2 : w.heap.size + 1 + 1 < w'.heap.size + 1 := (by omega)); (have ho := own_rd ho hrb U.1))) | (go_at_call 31; ((with_reducible refine (pick_at (n := 4) HR.out hU (by intro c hU; (repeat (first | with_reducible assumption | refine RdUp.ups ?_ (by with_reducible assumption) | with_reducible refine RdUp.set ?_ (by first | exact Nat.le_refl _ | (simp only []; omega) | (simp; omega)) _ | with_reducible refine RdUp.alloc ?_ _ | with_reducible refine RdUp.drew ?_ | with_reducible exact RdUp.of (Up.refl _)))) (by omega)).mono ?_); rintro e w' ⟨mode, rfl, mode0, mode1, hU, U⟩; have D := gcell U.1; have Z := U.1.size; (try simp at Z); (try have Y0 : w.heap.size < w'.heap.size := (by omega)); (try have Y1 : w.heap.size + 1 < w'.heap.size := (by omega)); (try have Y2 : w.heap.size + 1 + 1 < w'.heap.size := (by omega)); (try have X0 : w.heap.size < w'.heap.size + 1 := (by omega)); (try have X1 : w.heap.size + 1 < w'.heap.size + 1 := (by omega)); (try have X2 : w.heap.size + 1 + 1 < w'.heap.size + 1 := (by omega)); (have ho := own_rd ho hrb U.1))) | (go_at_call 31; ((with_reducible refine (pick_at (n := (n : Int) + 1) HR.out hU (by intro c hU; (repeat (first | with_reducible assumption | refine RdUp.ups ?_ (by with_reducible assumption) | with_reducible refine RdUp.set ?_ (by first | exact Nat.le_refl _ | (simp only []; omega) | (simp; omega)) _ | with_reducible refine RdUp.alloc ?_ _ | with_reducible refine RdUp.drew ?_ | with_reducible exact RdUp.of (Up.refl _)))) (by omega)).mono ?_); rintro e w' ⟨kk, rfl, kk0, kk1, hU, U⟩; have D := gcell U.1; have Z := U.1.size; (try simp at Z); (try have Y0 : w.heap.size < w'.heap.size := (by omega)); (try have Y1 : w.heap.size + 1 < w'.heap.size := (by omega)); (try have Y2 : w.heap.size + 1 + 1 < w'.heap.size := (by omega)); (try have X0 : w.heap.size < w'.heap.size + 1 := (by omega)); (try have X1 : w.heap.size + 1 < w'.heap.size + 1 := (by omega)); (try have X2 : w.heap.size + 1 + 1 < w'.heap.size + 1 := (by omega)); (have ho := own_rd ho hrb U.1))))
    obtain ⟨k, rfl⟩ := Int.eq_ofNat_of_zero_le kk0
    have hU1 := hU
    obtain ⟨pn, hpn⟩ := Int.eq_ofNat_of_zero_le (by omega : 0 ≤ 1 + per)
    rw [hpn]
    have hpn1 : 1 ≤ pn := by omega
    have hpn2 : pn ≤ 7 := by omega
    clear hpn per0 per1 D U Z Y0 X0 Y1 X1 Y2 X2
    go_loopw [7, 11] (fun out i wr => RelDb rb B n 4 cc w out i wr) (fun _ i _ => (intOf i).toNat)
    case atStart => exact ⟨[], k, rfl, by simp; omega, ho, hU1, fun b hb => by cases hb⟩
    case round =>
      clear ho hU1
      obtain ⟨l, k, rfl, hlk, ho, hU, hall⟩ := hrel
      have HA := Lib.hid hall
      clear hall
      have hwz := hU.1.size
      have hll : l.length ≤ 1000 := by omega
      by_cases hk : 0 < k
      · rcases (by omega : mode = 0 ∨ mode = 1 ∨ 2 ≤ mode) with rfl | rfl | hmo
        · rcases Nat.eq_zero_or_pos l.length with hl | hl
          · have hl0 : ¬ (0 : Int) < (l.length : Int) := by omega
            obtain ⟨a, c, rfl⟩ := ownsRow_shape ho
            have HL := Lib.hid hl
            clear hl
            go_wp2_with (first | (go_at_call 31; ((with_reducible refine (pick_at (n := 256) HR.out hU (by intro c hU; (repeat (first | with_reducible assumption | refine RdUp.ups ?_ (by with_reducible assumption) | with_reducible refine RdUp.set ?_ (by first | exact Nat.le_refl _ | (simp only []; omega) | (simp; omega)) _ | with_reducible refine RdUp.alloc ?_ _ | with_reducible refine RdUp.drew ?_ | with_reducible exact RdUp.of (Up.refl _)))) (by omega)).mono ?_); rintro e w' ⟨x, rfl, x0, x1, hU, U⟩; have D := gcell U.1; have Z := U.1.size; (try simp at Z); (try have Y0 : w.heap.size < w'.heap.size := (by omega)); (try have Y1 : w.heap.size + 1 < w'.heap.size := (by omega)); (try have Y2 : w.heap.size + 1 + 1 < w'.heap.size := (by omega)); (try have X0 : w.heap.size < w'.heap.size + 1 := (by omega)); (try have X1 : w.heap.size + 1 < w'.heap.size + 1 := (by omega)); (try have X2 : w.heap.size + 1 + 1 < w'.heap.size + 1 := (by omega)); (have ho := own_rd ho hrb U.1; obtain ⟨hm0, hm1⟩ := mod_bd x part (by omega) (by omega)))) | (at_builtin; refine wpList_append_own _ rfl _ _ 22 rfl (w.heap.size + 1) 5 i0 (.int .u8 0) 1 1 Tryz.underlying22 hib hz0 hz1 hz2 rfl (by decide) _ _ _ rfl ((ho).alloc _) ⟨(w').heap.size, 0, none⟩ 1 1 [.int .u8 (x % part)] rfl rfl (new_cells [.int .u8 (x % part)] _ rfl) (by intro u hu; simp at hu; subst hu; rfl) (by unfold maxLen; omega) (by omega) (by simp; omega) ?_; rintro v2 w2 hown2 hgr2 -; have hsn := ownU_snocR hown2 (by omega) (by omega)))
            all_goals
              go_roundw
              case rel => exact ⟨_, k - 1, by go_num, by simp; omega, hsn, RdUp.mono ((hU.alloc _).gr hgr2 (fun y hy => by have := row_ge ho y hy; omega)) (by simp; omega), snoc_lt HA.out (by first | exact Int.emod_nonneg _ (by omega) | omega) (by first | omega | (have := Int.emod_lt_of_pos x (show 0 < part by omega); omega))⟩
              case measure => simp [intOf]; omega
          · obtain ⟨g, c, rfl, hg1, hg2, hcl⟩ := own_at ho hl
            obtain ⟨m, hm⟩ : ∃ m : Nat, ((l.length : Int) - 1 = (m : Int)) := ⟨l.length - 1, by omega⟩
            have hml : m < l.length := by omega
            have hml1 : (m : Int) < (l.length : Int) := by omega
            have hgr : ¬ g = rb := by omega
            have hx1 := hcl m hml
            have hb1 := u8_bd l[m]
            have hb0 : (0 : Int) ≤ (l[m].toNat : Int) := Int.natCast_nonneg _
            have hzc : (l[m].toNat : Int) < (cc : Int) := by have := HA.out l[m] (List.getElem_mem hml); omega
            generalize (l[m].toNat : Int) = z1 at *
            clear hcl
            go_wp2_with (first | (go_at_call 31; ((with_reducible refine (pick_at (n := 256) HR.out hU (by intro c hU; (repeat (first | with_reducible assumption | refine RdUp.ups ?_ (by with_reducible assumption) | with_reducible refine RdUp.set ?_ (by first | exact Nat.le_refl _ | (simp only []; omega) | (simp; omega)) _ | with_reducible refine RdUp.alloc ?_ _ | with_reducible refine RdUp.drew ?_ | with_reducible exact RdUp.of (Up.refl _)))) (by omega)).mono ?_); rintro e w' ⟨x, rfl, x0, x1, hU, U⟩; have D := gcell U.1; have Z := U.1.size; (try simp at Z); (try have Y0 : w.heap.size < w'.heap.size := (by omega)); (try have Y1 : w.heap.size + 1 < w'.heap.size := (by omega)); (try have Y2 : w.heap.size + 1 + 1 < w'.heap.size := (by omega)); (try have X0 : w.heap.size < w'.heap.size + 1 := (by omega)); (try have X1 : w.heap.size + 1 < w'.heap.size + 1 := (by omega)); (try have X2 : w.heap.size + 1 + 1 < w'.heap.size + 1 := (by omega)); (have ho := own_rd ho hrb U.1; have Yg : g < w'.heap.size := (by omega); obtain ⟨hm0, hm1⟩ := mod_bd x part (by omega) (by omega)))) | (go_at_call 31; ((with_reducible refine (pick_at (n := 4) HR.out hU (by intro c hU; (repeat (first | with_reducible assumption | refine RdUp.ups ?_ (by with_reducible assumption) | with_reducible refine RdUp.set ?_ (by first | exact Nat.le_refl _ | (simp only []; omega) | (simp; omega)) _ | with_reducible refine RdUp.alloc ?_ _ | with_reducible refine RdUp.drew ?_ | with_reducible exact RdUp.of (Up.refl _)))) (by omega)).mono ?_); rintro e w' ⟨y4, rfl, y40, y41, hU, U⟩; have D := gcell U.1; have Z := U.1.size; (try simp at Z); (try have Y0 : w.heap.size < w'.heap.size := (by omega)); (try have Y1 : w.heap.size + 1 < w'.heap.size := (by omega)); (try have Y2 : w.heap.size + 1 + 1 < w'.heap.size := (by omega)); (try have X0 : w.heap.size < w'.heap.size + 1 := (by omega)); (try have X1 : w.heap.size + 1 < w'.heap.size + 1 := (by omega)); (try have X2 : w.heap.size + 1 + 1 < w'.heap.size + 1 := (by omega)); (have ho := own_rd ho hrb U.1; have Yg : g < w'.heap.size := (by omega); skip))) | (at_builtin; refine wpList_append_own _ rfl _ _ 22 rfl (w.heap.size + 1) 5 i0 (.int .u8 0) 1 1 Tryz.underlying22 hib hz0 hz1 hz2 rfl (by decide) _ _ _ rfl ((ho).alloc _) ⟨(w').heap.size, 0, none⟩ 1 1 [.int .u8 (x % part)] rfl rfl (new_cells [.int .u8 (x % part)] _ rfl) (by intro u hu; simp at hu; subst hu; rfl) (by unfold maxLen; omega) (by omega) (by simp; omega) ?_; rintro v2 w2 hown2 hgr2 -; have hsn := ownU_snocR hown2 (by omega) (by omega)) | (at_builtin; refine wpList_append_own _ rfl _ _ 22 rfl (w.heap.size + 1) 5 i0 (.int .u8 0) 1 1 Tryz.underlying22 hib hz0 hz1 hz2 rfl (by decide) _ _ _ rfl ((ho).alloc _) ⟨(w').heap.size, 0, none⟩ 1 1 [.int .u8 z1] rfl rfl (new_cells [.int .u8 z1] _ rfl) (by intro u hu; simp at hu; subst hu; rfl) (by unfold maxLen; omega) (by omega) (by simp; omega) ?_; rintro v2 w2 hown2 hgr2 -; have hsn := ownU_snocR hown2 (by omega) (by omega)))
            all_goals
              go_roundw
              case rel => exact ⟨_, k - 1, by go_num, by simp; omega, hsn, RdUp.mono ((hU.alloc _).gr hgr2 (fun y hy => by have := row_ge ho y hy; omega)) (by simp; omega), snoc_lt HA.out (by first | exact Int.emod_nonneg _ (by omega) | omega) (by first | omega | (have := Int.emod_lt_of_pos x (show 0 < part by omega); omega))⟩
              case measure => simp [intOf]; omega
        · by_cases hp : pn ≤ l.length
          · obtain ⟨g, c, rfl, hg1, hg2, hcl⟩ := own_at ho (by omega)
            obtain ⟨m, hm⟩ : ∃ m : Nat, ((l.length : Int) - (pn : Int) = (m : Int)) := ⟨l.length - pn, by omega⟩
            have hml : m < l.length := by omega
            have hml1 : (m : Int) < (l.length : Int) := by omega
            have hgr : ¬ g = rb := by omega
            have hx1 := hcl m hml
            have hb1 := u8_bd l[m]
            have hb0 : (0 : Int) ≤ (l[m].toNat : Int) := Int.natCast_nonneg _
            have hzc : (l[m].toNat : Int) < (cc : Int) := by have := HA.out l[m] (List.getElem_mem hml); omega
            generalize (l[m].toNat : Int) = z1 at *
            clear hcl
            go_wp2_with (first | (go_at_call 31; ((with_reducible refine (pick_at (n := 256) HR.out hU (by intro c hU; (repeat (first | with_reducible assumption | refine RdUp.ups ?_ (by with_reducible assumption) | with_reducible refine RdUp.set ?_ (by first | exact Nat.le_refl _ | (simp only []; omega) | (simp; omega)) _ | with_reducible refine RdUp.alloc ?_ _ | with_reducible refine RdUp.drew ?_ | with_reducible exact RdUp.of (Up.refl _)))) (by omega)).mono ?_); rintro e w' ⟨x, rfl, x0, x1, hU, U⟩; have D := gcell U.1; have Z := U.1.size; (try simp at Z); (try have Y0 : w.heap.size < w'.heap.size := (by omega)); (try have Y1 : w.heap.size + 1 < w'.heap.size := (by omega)); (try have Y2 : w.heap.size + 1 + 1 < w'.heap.size := (by omega)); (try have X0 : w.heap.size < w'.heap.size + 1 := (by omega)); (try have X1 : w.heap.size + 1 < w'.heap.size + 1 := (by omega)); (try have X2 : w.heap.size + 1 + 1 < w'.heap.size + 1 := (by omega)); (have ho := own_rd ho hrb U.1; have Yg : g < w'.heap.size := (by omega); obtain ⟨hm0, hm1⟩ := mod_bd x part (by omega) (by omega)))) | (go_at_call 31; ((with_reducible refine (pick_at (n := 10) HR.out hU (by intro c hU; (repeat (first | with_reducible assumption | refine RdUp.ups ?_ (by with_reducible assumption) | with_reducible refine RdUp.set ?_ (by first | exact Nat.le_refl _ | (simp only []; omega) | (simp; omega)) _ | with_reducible refine RdUp.alloc ?_ _ | with_reducible refine RdUp.drew ?_ | with_reducible exact RdUp.of (Up.refl _)))) (by omega)).mono ?_); rintro e w' ⟨y10, rfl, y100, y101, hU, U⟩; have D := gcell U.1; have Z := U.1.size; (try simp at Z); (try have Y0 : w.heap.size < w'.heap.size := (by omega)); (try have Y1 : w.heap.size + 1 < w'.heap.size := (by omega)); (try have Y2 : w.heap.size + 1 + 1 < w'.heap.size := (by omega)); (try have X0 : w.heap.size < w'.heap.size + 1 := (by omega)); (try have X1 : w.heap.size + 1 < w'.heap.size + 1 := (by omega)); (try have X2 : w.heap.size + 1 + 1 < w'.heap.size + 1 := (by omega)); (have ho := own_rd ho hrb U.1; have Yg : g < w'.heap.size := (by omega); skip))) | (at_builtin; refine wpList_append_own _ rfl _ _ 22 rfl (w.heap.size + 1) 5 i0 (.int .u8 0) 1 1 Tryz.underlying22 hib hz0 hz1 hz2 rfl (by decide) _ _ _ rfl ((ho).alloc _) ⟨(w').heap.size, 0, none⟩ 1 1 [.int .u8 (x % part)] rfl rfl (new_cells [.int .u8 (x % part)] _ rfl) (by intro u hu; simp at hu; subst hu; rfl) (by unfold maxLen; omega) (by omega) (by simp; omega) ?_; rintro v2 w2 hown2 hgr2 -; have hsn := ownU_snocR hown2 (by omega) (by omega)) | (at_builtin; refine wpList_append_own _ rfl _ _ 22 rfl (w.heap.size + 1) 5 i0 (.int .u8 0) 1 1 Tryz.underlying22 hib hz0 hz1 hz2 rfl (by decide) _ _ _ rfl ((ho).alloc _) ⟨(w').heap.size, 0, none⟩ 1 1 [.int .u8 z1] rfl rfl (new_cells [.int .u8 z1] _ rfl) (by intro u hu; simp at hu; subst hu; rfl) (by unfold maxLen; omega) (by omega) (by simp; omega) ?_; rintro v2 w2 hown2 hgr2 -; have hsn := ownU_snocR hown2 (by omega) (by omega)))
            all_goals
              go_roundw
              case rel => exact ⟨_, k - 1, by go_num, by simp; omega, hsn, RdUp.mono ((hU.alloc _).gr hgr2 (fun y hy => by have := row_ge ho y hy; omega)) (by simp; omega), snoc_lt HA.out (by first | exact Int.emod_nonneg _ (by omega) | omega) (by first | omega | (have := Int.emod_lt_of_pos x (show 0 < part by omega); omega))⟩
              case measure => simp [intOf]; omega
          · obtain ⟨a, c, rfl⟩ := ownsRow_shape ho
            go_wp2_with (first | (go_at_call 31; ((with_reducible refine (pick_at (n := 256) HR.out hU (by intro c hU; (repeat (first | with_reducible assumption | refine RdUp.ups ?_ (by with_reducible assumption) | with_reducible refine RdUp.set ?_ (by first | exact Nat.le_refl _ | (simp only []; omega) | (simp; omega)) _ | with_reducible refine RdUp.alloc ?_ _ | with_reducible refine RdUp.drew ?_ | with_reducible exact RdUp.of (Up.refl _)))) (by omega)).mono ?_); rintro e w' ⟨x, rfl, x0, x1, hU, U⟩; have D := gcell U.1; have Z := U.1.size; (try simp at Z); (try have Y0 : w.heap.size < w'.heap.size := (by omega)); (try have Y1 : w.heap.size + 1 < w'.heap.size := (by omega)); (try have Y2 : w.heap.size + 1 + 1 < w'.heap.size := (by omega)); (try have X0 : w.heap.size < w'.heap.size + 1 := (by omega)); (try have X1 : w.heap.size + 1 < w'.heap.size + 1 := (by omega)); (try have X2 : w.heap.size + 1 + 1 < w'.heap.size + 1 := (by omega)); (have ho := own_rd ho hrb U.1; obtain ⟨hm0, hm1⟩ := mod_bd x part (by omega) (by omega)))) | (at_builtin; refine wpList_append_own _ rfl _ _ 22 rfl (w.heap.size + 1) 5 i0 (.int .u8 0) 1 1 Tryz.underlying22 hib hz0 hz1 hz2 rfl (by decide) _ _ _ rfl ((ho).alloc _) ⟨(w').heap.size, 0, none⟩ 1 1 [.int .u8 (x % part)] rfl rfl (new_cells [.int .u8 (x % part)] _ rfl) (by intro u hu; simp at hu; subst hu; rfl) (by unfold maxLen; omega) (by omega) (by simp; omega) ?_; rintro v2 w2 hown2 hgr2 -; have hsn := ownU_snocR hown2 (by omega) (by omega)))
            all_goals
              go_roundw
              case rel => exact ⟨_, k - 1, by go_num, by simp; omega, hsn, RdUp.mono ((hU.alloc _).gr hgr2 (fun y hy => by have := row_ge ho y hy; omega)) (by simp; omega), snoc_lt HA.out (by first | exact Int.emod_nonneg _ (by omega) | omega) (by first | omega | (have := Int.emod_lt_of_pos x (show 0 < part by omega); omega))⟩
              case measure => simp [intOf]; omega
        · obtain ⟨a, c, rfl⟩ := ownsRow_shape ho
          go_wp2_with (first | (go_at_call 31; ((with_reducible refine (pick_at (n := 256) HR.out hU (by intro c hU; (repeat (first | with_reducible assumption | refine RdUp.ups ?_ (by with_reducible assumption) | with_reducible refine RdUp.set ?_ (by first | exact Nat.le_refl _ | (simp only []; omega) | (simp; omega)) _ | with_reducible refine RdUp.alloc ?_ _ | with_reducible refine RdUp.drew ?_ | with_reducible exact RdUp.of (Up.refl _)))) (by omega)).mono ?_); rintro e w' ⟨x, rfl, x0, x1, hU, U⟩; have D := gcell U.1; have Z := U.1.size; (try simp at Z); (try have Y0 : w.heap.size < w'.heap.size := (by omega)); (try have Y1 : w.heap.size + 1 < w'.heap.size := (by omega)); (try have Y2 : w.heap.size + 1 + 1 < w'.heap.size := (by omega)); (try have X0 : w.heap.size < w'.heap.size + 1 := (by omega)); (try have X1 : w.heap.size + 1 < w'.heap.size + 1 := (by omega)); (try have X2 : w.heap.size + 1 + 1 < w'.heap.size + 1 := (by omega)); (have ho := own_rd ho hrb U.1; obtain ⟨hm0, hm1⟩ := mod_bd x part (by omega) (by omega)))) | (at_builtin; refine wpList_append_own _ rfl _ _ 22 rfl (w.heap.size + 1) 5 i0 (.int .u8 0) 1 1 Tryz.underlying22 hib hz0 hz1 hz2 rfl (by decide) _ _ _ rfl ((ho).alloc _) ⟨(w').heap.size, 0, none⟩ 1 1 [.int .u8 (x % part)] rfl rfl (new_cells [.int .u8 (x % part)] _ rfl) (by intro u hu; simp at hu; subst hu; rfl) (by unfold maxLen; omega) (by omega) (by simp; omega) ?_; rintro v2 w2 hown2 hgr2 -; have hsn := ownU_snocR hown2 (by omega) (by omega)))
          all_goals
            go_roundw
            case rel => exact ⟨_, k - 1, by go_num, by simp; omega, hsn, RdUp.mono ((hU.alloc _).gr hgr2 (fun y hy => by have := row_ge ho y hy; omega)) (by simp; omega), snoc_lt HA.out (by first | exact Int.emod_nonneg _ (by omega) | omega) (by first | omega | (have := Int.emod_lt_of_pos x (show 0 < part by omega); omega))⟩
            case measure => simp [intOf]; omega
      · obtain ⟨a, c, rfl⟩ := ownsRow_shape ho
        have cv := conv_any ho rfl
        clear ho
        go_wp2
        go_ret
        refine ⟨_, rfl, ⟨_, rfl, by rw [bs_size]; omega, by rw [bs_data]; exact HA.out⟩, ?_⟩
        exact RdUp.fin hU (by intro c hU; (repeat (first | with_reducible assumption | refine RdUp.ups ?_ (by with_reducible assumption) | with_reducible refine RdUp.set ?_ (by first | exact Nat.le_refl _ | (simp only []; omega) | (simp; omega)) _ | with_reducible refine RdUp.alloc ?_ _ | with_reducible refine RdUp.drew ?_ | with_reducible exact RdUp.of (Up.refl _)))) (by omega)
  · have hpc : i ≤ (cc : Int) := by omega
    clear hpcc
    obtain ⟨part, rfl⟩ : ∃ p : Int, p = i := ⟨_, rfl⟩
    have hrb : rb < w.heap.size + 1 := by omega
    go_wp2_with (first | (go_at_call 31; ((with_reducible refine (pick_at (n := 7) HR.out hU (by intro c hU; (repeat (first | with_reducible assumption | refine RdUp.ups ?_ (by with_reducible assumption) | with_reducible refine RdUp.set ?_ (by first | exact Nat.le_refl _ | (simp only []; omega) | (simp; omega)) _ | with_reducible refine RdUp.alloc ?_ _ | with_reducible refine RdUp.drew ?_ | with_reducible exact RdUp.of (Up.refl _)))) (by omega)).mono ?_); rintro e w' ⟨per, rfl, per0, per1, hU, U⟩; have D := gcell U.1; have Z := U.1.size; (try simp at Z); (try have Y0 : w.heap.size < w'.heap.size := (by omega)); (try have Y1 : w.heap.size + 1 < w'.heap.size := (by omega)); (try have Y2 : w.heap.size + 1 + 1 < w'.heap.size := (by omega)); (try have X0 : w.heap.size < w'.heap.size + 1 := (by omega)); (try have X1 : w.heap.size + 1 < w'.heap.size + 1 := (by omega)); (try have X2 : w.heap.size + 1 + 1 < w'.heap.size + 1 := (by omega)); (have ho := own_rd ho hrb U.1))) | (go_at_call 31; ((with_reducible refine (pick_at (n := 4) HR.out hU (by intro c hU; (repeat (first | with_reducible assumption | refine RdUp.ups ?_ (by with_reducible assumption) | with_reducible refine RdUp.set ?_ (by first | exact Nat.le_refl _ | (simp only []; omega) | (simp; omega)) _ | with_reducible refine RdUp.alloc ?_ _ | with_reducible refine RdUp.drew ?_ | with_reducible exact RdUp.of (Up.refl _)))) (by omega)).mono ?_); rintro e w' ⟨mode, rfl, mode0, mode1, hU, U⟩; have D := gcell U.1; have Z := U.1.size; (try simp at Z); (try have Y0 : w.heap.size < w'.heap.size := (by omega)); (try have Y1 : w.heap.size + 1 < w'.heap.size := (by omega)); (try have Y2 : w.heap.size + 1 + 1 < w'.heap.size := (by omega)); (try have X0 : w.heap.size < w'.heap.size + 1 := (by omega)); (try have X1 : w.heap.size + 1 < w'.heap.size + 1 := (by omega)); (try have X2 : w.heap.size + 1 + 1 < w'.heap.size + 1 := (by omega)); (have ho := own_rd ho hrb U.1))) | (go_at_call 31; ((with_reducible refine (pick_at (n := (n : Int) + 1) HR.out hU (by intro c hU; (repeat (first | with_reducible assumption | refine RdUp.ups ?_ (by with_reducible assumption) | with_reducible refine RdUp.set ?_ (by first | exact Nat.le_refl _ | (simp only []; omega) | (simp; omega)) _ | with_reducible refine RdUp.alloc ?_ _ | with_reducible refine RdUp.drew ?_ | with_reducible exact RdUp.of (Up.refl _)))) (by omega)).mono ?_); rintro e w' ⟨kk, rfl, kk0, kk1, hU, U⟩; have D := gcell U.1; have Z := U.1.size; (try simp at Z); (try have Y0 : w.heap.size < w'.heap.size := (by omega)); (try have Y1 : w.heap.size + 1 < w'.heap.size := (by omega)); (try have Y2 : w.heap.size + 1 + 1 < w'.heap.size := (by omega)); (try have X0 : w.heap.size < w'.heap.size + 1 := (by omega)); (try have X1 : w.heap.size + 1 < w'.heap.size + 1 := (by omega)); (try have X2 : w.heap.size + 1 + 1 < w'.heap.size + 1 := (by omega)); (have ho := own_rd ho hrb U.1))))
    obtain ⟨k, rfl⟩ := Int.eq_ofNat_of_zero_le kk0
    have hU1 := hU
    obtain ⟨pn, hpn⟩ := Int.eq_ofNat_of_zero_le (by omega : 0 ≤ 1 + per)
    rw [hpn]
    have hpn1 : 1 ≤ pn := by omega
    have hpn2 : pn ≤ 7 := by omega
    clear hpn per0 per1 D U Z Y0 X0 Y1 X1 Y2 X2
    go_loopw [7, 11] (fun out i wr => RelDb rb B n 4 cc w out i wr) (fun _ i _ => (intOf i).toNat)
    case atStart => exact ⟨[], k, rfl, by simp; omega, ho, hU1, fun b hb => by cases hb⟩
    case round =>
      clear ho hU1
      obtain ⟨l, k, rfl, hlk, ho, hU, hall⟩ := hrel
      have HA := Lib.hid hall
      clear hall
      have hwz := hU.1.size
      have hll : l.length ≤ 1000 := by omega
      by_cases hk : 0 < k
      · rcases (by omega : mode = 0 ∨ mode = 1 ∨ 2 ≤ mode) with rfl | rfl | hmo
        · rcases Nat.eq_zero_or_pos l.length with hl | hl
          · have hl0 : ¬ (0 : Int) < (l.length : Int) := by omega
            obtain ⟨a, c, rfl⟩ := ownsRow_shape ho
            have HL := Lib.hid hl
            clear hl
            go_wp2_with (first | (go_at_call 31; ((with_reducible refine (pick_at (n := 256) HR.out hU (by intro c hU; (repeat (first | with_reducible assumption | refine RdUp.ups ?_ (by with_reducible assumption) | with_reducible refine RdUp.set ?_ (by first | exact Nat.le_refl _ | (simp only []; omega) | (simp; omega)) _ | with_reducible refine RdUp.alloc ?_ _ | with_reducible refine RdUp.drew ?_ | with_reducible exact RdUp.of (Up.refl _)))) (by omega)).mono ?_); rintro e w' ⟨x, rfl, x0, x1, hU, U⟩; have D := gcell U.1; have Z := U.1.size; (try simp at Z); (try have Y0 : w.heap.size < w'.heap.size := (by omega)); (try have Y1 : w.heap.size + 1 < w'.heap.size := (by omega)); (try have Y2 : w.heap.size + 1 + 1 < w'.heap.size := (by omega)); (try have X0 : w.heap.size < w'.heap.size + 1 := (by omega)); (try have X1 : w.heap.size + 1 < w'.heap.size + 1 := (by omega)); (try have X2 : w.heap.size + 1 + 1 < w'.heap.size + 1 := (by omega)); (have ho := own_rd ho hrb U.1; obtain ⟨hm0, hm1⟩ := mod_bd x part (by omega) (by omega)))) | (at_builtin; refine wpList_append_own _ rfl _ _ 22 rfl (w.heap.size + 1) 5 i0 (.int .u8 0) 1 1 Tryz.underlying22 hib hz0 hz1 hz2 rfl (by decide) _ _ _ rfl ((ho).alloc _) ⟨(w').heap.size, 0, none⟩ 1 1 [.int .u8 (x % part)] rfl rfl (new_cells [.int .u8 (x % part)] _ rfl) (by intro u hu; simp at hu; subst hu; rfl) (by unfold maxLen; omega) (by omega) (by simp; omega) ?_; rintro v2 w2 hown2 hgr2 -; have hsn := ownU_snocR hown2 (by omega) (by omega)))
            all_goals
              go_roundw
              case rel => exact ⟨_, k - 1, by go_num, by simp; omega, hsn, RdUp.mono ((hU.alloc _).gr hgr2 (fun y hy => by have := row_ge ho y hy; omega)) (by simp; omega), snoc_lt HA.out (by first | exact Int.emod_nonneg _ (by omega) | omega) (by first | omega | (have := Int.emod_lt_of_pos x (show 0 < part by omega); omega))⟩
              case measure => simp [intOf]; omega
          · obtain ⟨g, c, rfl, hg1, hg2, hcl⟩ := own_at ho hl
            obtain ⟨m, hm⟩ : ∃ m : Nat, ((l.length : Int) - 1 = (m : Int)) := ⟨l.length - 1, by omega⟩
            have hml : m < l.length := by omega
            have hml1 : (m : Int) < (l.length : Int) := by omega
            have hgr : ¬ g = rb := by omega
            have hx1 := hcl m hml
            have hb1 := u8_bd l[m]
            have hb0 : (0 : Int) ≤ (l[m].toNat : Int) := Int.natCast_nonneg _
            have hzc : (l[m].toNat : Int) < (cc : Int) := by have := HA.out l[m] (List.getElem_mem hml); omega
            generalize (l[m].toNat : Int) = z1 at *
            clear hcl
            go_wp2_with (first | (go_at_call 31; ((with_reducible refine (pick_at (n := 256) HR.out hU (by intro c hU; (repeat (first | with_reducible assumption | refine RdUp.ups ?_ (by with_reducible assumption) | with_reducible refine RdUp.set ?_ (by first | exact Nat.le_refl _ | (simp only []; omega) | (simp; omega)) _ | with_reducible refine RdUp.alloc ?_ _ | with_reducible refine RdUp.drew ?_ | with_reducible exact RdUp.of (Up.refl _)))) (by omega)).mono ?_); rintro e w' ⟨x, rfl, x0, x1, hU, U⟩; have D := gcell U.1; have Z := U.1.size; (try simp at Z); (try have Y0 : w.heap.size < w'.heap.size := (by omega)); (try have Y1 : w.heap.size + 1 < w'.heap.size := (by omega)); (try have Y2 : w.heap.size + 1 + 1 < w'.heap.size := (by omega)); (try have X0 : w.heap.size < w'.heap.size + 1 := (by omega)); (try have X1 : w.heap.size + 1 < w'.heap.size + 1 := (by omega)); (try have X2 : w.heap.size + 1 + 1 < w'.heap.size + 1 := (by omega)); (have ho := own_rd ho hrb U.1; have Yg : g < w'.heap.size := (by omega); obtain ⟨hm0, hm1⟩ := mod_bd x part (by omega) (by omega)))) | (go_at_call 31; ((with_reducible refine (pick_at (n := 4) HR.out hU (by intro c hU; (repeat (first | with_reducible assumption | refine RdUp.ups ?_ (by with_reducible assumption) | with_reducible refine RdUp.set ?_ (by first | exact Nat.le_refl _ | (simp only []; omega) | (simp; omega)) _ | with_reducible refine RdUp.alloc ?_ _ | with_reducible refine RdUp.drew ?_ | with_reducible exact RdUp.of (Up.refl _)))) (by omega)).mono ?_); rintro e w' ⟨y4, rfl, y40, y41, hU, U⟩; have D := gcell U.1; have Z := U.1.size; (try simp at Z); (try have Y0 : w.heap.size < w'.heap.size := (by omega)); (try have Y1 : w.heap.size + 1 < w'.heap.size := (by omega)); (try have Y2 : w.heap.size + 1 + 1 < w'.heap.size := (by omega)); (try have X0 : w.heap.size < w'.heap.size + 1 := (by omega)); (try have X1 : w.heap.size + 1 < w'.heap.size + 1 := (by omega)); (try have X2 : w.heap.size + 1 + 1 < w'.heap.size + 1 := (by omega)); (have ho := own_rd ho hrb U.1; have Yg : g < w'.heap.size := (by omega); skip))) | (at_builtin; refine wpList_append_own _ rfl _ _ 22 rfl (w.heap.size + 1) 5 i0 (.int .u8 0) 1 1 Tryz.underlying22 hib hz0 hz1 hz2 rfl (by decide) _ _ _ rfl ((ho).alloc _) ⟨(w').heap.size, 0, none⟩ 1 1 [.int .u8 (x % part)] rfl rfl (new_cells [.int .u8 (x % part)] _ rfl) (by intro u hu; simp at hu; subst hu; rfl) (by unfold maxLen; omega) (by omega) (by simp; omega) ?_; rintro v2 w2 hown2 hgr2 -; have hsn := ownU_snocR hown2 (by omega) (by omega)) | (at_builtin; refine wpList_append_own _ rfl _ _ 22 rfl (w.heap.size + 1) 5 i0 (.int .u8 0) 1 1 Tryz.underlying22 hib hz0 hz1 hz2 rfl (by decide) _ _ _ rfl ((ho).alloc _) ⟨(w').heap.size, 0, none⟩ 1 1 [.int .u8 z1] rfl rfl (new_cells [.int .u8 z1] _ rfl) (by intro u hu; simp at hu; subst hu; rfl) (by unfold maxLen; omega) (by omega) (by simp; omega) ?_; rintro v2 w2 hown2 hgr2 -; have hsn := ownU_snocR hown2 (by omega) (by omega)))
            all_goals
              go_roundw
              case rel => exact ⟨_, k - 1, by go_num, by simp; omega, hsn, RdUp.mono ((hU.alloc _).gr hgr2 (fun y hy => by have := row_ge ho y hy; omega)) (by simp; omega), snoc_lt HA.out (by first | exact Int.emod_nonneg _ (by omega) | omega) (by first | omega | (have := Int.emod_lt_of_pos x (show 0 < part by omega); omega))⟩
              case measure => simp [intOf]; omega
        · by_cases hp : pn ≤ l.length
          · obtain ⟨g, c, rfl, hg1, hg2, hcl⟩ := own_at ho (by omega)
            obtain ⟨m, hm⟩ : ∃ m : Nat, ((l.length : Int) - (pn : Int) = (m : Int)) := ⟨l.length - pn, by omega⟩
            have hml : m < l.length := by omega
            have hml1 : (m : Int) < (l.length : Int) := by omega
            have hgr : ¬ g = rb := by omega
            have hx1 := hcl m hml
            have hb1 := u8_bd l[m]
            have hb0 : (0 : Int) ≤ (l[m].toNat : Int) := Int.natCast_nonneg _
            have hzc : (l[m].toNat : Int) < (cc : Int) := by have := HA.out l[m] (List.getElem_mem hml); omega
            generalize (l[m].toNat : Int) = z1 at *
            clear hcl
            go_wp2_with (first | (go_at_call 31; ((with_reducible refine (pick_at (n := 256) HR.out hU (by intro c hU; (repeat (first | with_reducible assumption | refine RdUp.ups ?_ (by with_reducible assumption) | with_reducible refine RdUp.set ?_ (by first | exact Nat.le_refl _ | (simp only []; omega) | (simp; omega)) _ | with_reducible refine RdUp.alloc ?_ _ | with_reducible refine RdUp.drew ?_ | with_reducible exact RdUp.of (Up.refl _)))) (by omega)).mono ?_); rintro e w' ⟨x, rfl, x0, x1, hU, U⟩; have D := gcell U.1; have Z := U.1.size; (try simp at Z); (try have Y0 : w.heap.size < w'.heap.size := (by omega)); (try have Y1 : w.heap.size + 1 < w'.heap.size := (by omega)); (try have Y2 : w.heap.size + 1 + 1 < w'.heap.size := (by omega)); (try have X0 : w.heap.size < w'.heap.size + 1 := (by omega)); (try have X1 : w.heap.size + 1 < w'.heap.size + 1 := (by omega)); (try have X2 : w.heap.size + 1 + 1 < w'.heap.size + 1 := (by omega)); (have ho := own_rd ho hrb U.1; have Yg : g < w'.heap.size := (by omega); obtain ⟨hm0, hm1⟩ := mod_bd x part (by omega) (by omega)))) | (go_at_call 31; ((with_reducible refine (pick_at (n := 10) HR.out hU (by intro c hU; (repeat (first | with_reducible assumption | refine RdUp.ups ?_ (by with_reducible assumption) | with_reducible refine RdUp.set ?_ (by first | exact Nat.le_refl _ | (simp only []; omega) | (simp; omega)) _ | with_reducible refine RdUp.alloc ?_ _ | with_reducible refine RdUp.drew ?_ | with_reducible exact RdUp.of (Up.refl _)))) (by omega)).mono ?_); rintro e w' ⟨y10, rfl, y100, y101, hU, U⟩; have D := gcell U.1; have Z := U.1.size; (try simp at Z); (try have Y0 : w.heap.size < w'.heap.size := (by omega)); (try have Y1 : w.heap.size + 1 < w'.heap.size := (by omega)); (try have Y2 : w.heap.size + 1 + 1 < w'.heap.size := (by omega)); (try have X0 : w.heap.size < w'.heap.size + 1 := (by omega)); (try have X1 : w.heap.size + 1 < w'.heap.size + 1 := (by omega)); (try have X2 : w.heap.size + 1 + 1 < w'.heap.size + 1 := (by omega)); (have ho := own_rd ho hrb U.1; have Yg : g < w'.heap.size := (by omega); skip))) | (at_builtin; refine wpList_append_own _ rfl _ _ 22 rfl (w.heap.size + 1) 5 i0 (.int .u8 0) 1 1 Tryz.underlying22 hib hz0 hz1 hz2 rfl (by decide) _ _ _ rfl ((ho).alloc _) ⟨(w').heap.size, 0, none⟩ 1 1 [.int .u8 (x % part)] rfl rfl (new_cells [.int .u8 (x % part)] _ rfl) (by intro u hu; simp at hu; subst hu; rfl) (by unfold maxLen; omega) (by omega) (by simp; omega) ?_; rintro v2 w2 hown2 hgr2 -; have hsn := ownU_snocR hown2 (by omega) (by omega)) | (at_builtin; refine wpList_append_own _ rfl _ _ 22 rfl (w.heap.size + 1) 5 i0 (.int .u8 0) 1 1 Tryz.underlying22 hib hz0 hz1 hz2 rfl (by decide) _ _ _ rfl ((ho).alloc _) ⟨(w').heap.size, 0, none⟩ 1 1 [.int .u8 z1] rfl rfl (new_cells [.int .u8 z1] _ rfl) (by intro u hu; simp at hu; subst hu; rfl) (by unfold maxLen; omega) (by omega) (by simp; omega) ?_; rintro v2 w2 hown2 hgr2 -; have hsn := ownU_snocR hown2 (by omega) (by omega)))
            all_goals
              go_roundw
              case rel => exact ⟨_, k - 1, by go_num, by simp; omega, hsn, RdUp.mono ((hU.alloc _).gr hgr2 (fun y hy => by have := row_ge ho y hy; omega)) (by simp; omega), snoc_lt HA.out (by first | exact Int.emod_nonneg _ (by omega) | omega) (by first | omega | (have := Int.emod_lt_of_pos x (show 0 < part by omega); omega))⟩
              case measure => simp [intOf]; omega
          · obtain ⟨a, c, rfl⟩ := ownsRow_shape ho
            go_wp2_with (first | (go_at_call 31; ((with_reducible refine (pick_at (n := 256) HR.out hU (by intro c hU; (repeat (first | with_reducible assumption | refine RdUp.ups ?_ (by with_reducible assumption) | with_reducible refine RdUp.set ?_ (by first | exact Nat.le_refl _ | (simp only []; omega) | (simp; omega)) _ | with_reducible refine RdUp.alloc ?_ _ | with_reducible refine RdUp.drew ?_ | with_reducible exact RdUp.of (Up.refl _)))) (by omega)).mono ?_); rintro e w' ⟨x, rfl, x0, x1, hU, U⟩; have D := gcell U.1; have Z := U.1.size; (try simp at Z); (try have Y0 : w.heap.size < w'.heap.size := (by omega)); (try have Y1 : w.heap.size + 1 < w'.heap.size := (by omega)); (try have Y2 : w.heap.size + 1 + 1 < w'.heap.size := (by omega)); (try have X0 : w.heap.size < w'.heap.size + 1 := (by omega)); (try have X1 : w.heap.size + 1 < w'.heap.size + 1 := (by omega)); (try have X2 : w.heap.size + 1 + 1 < w'.heap.size + 1 := (by omega)); (have ho := own_rd ho hrb U.1; obtain ⟨hm0, hm1⟩ := mod_bd x part (by omega) (by omega)))) | (at_builtin; refine wpList_append_own _ rfl _ _ 22 rfl (w.heap.size + 1) 5 i0 (.int .u8 0) 1 1 Tryz.underlying22 hib hz0 hz1 hz2 rfl (by decide) _ _ _ rfl ((ho).alloc _) ⟨(w').heap.size, 0, none⟩ 1 1 [.int .u8 (x % part)] rfl rfl (new_cells [.int .u8 (x % part)] _ rfl) (by intro u hu; simp at hu; subst hu; rfl) (by unfold maxLen; omega) (by omega) (by simp; omega) ?_; rintro v2 w2 hown2 hgr2 -; have hsn := ownU_snocR hown2 (by omega) (by omega)))
            all_goals
              go_roundw
              case rel => exact ⟨_, k - 1, by go_num, by simp; omega, hsn, RdUp.mono ((hU.alloc _).gr hgr2 (fun y hy => by have := row_ge ho y hy; omega)) (by simp; omega), snoc_lt HA.out (by first | exact Int.emod_nonneg _ (by omega) | omega) (by first | omega | (have := Int.emod_lt_of_pos x (show 0 < part by omega); omega))⟩
              case measure => simp [intOf]; omega
        · obtain ⟨a, c, rfl⟩ := ownsRow_shape ho
          go_wp2_with (first | (go_at_call 31; ((with_reducible refine (pick_at (n := 256) HR.out hU (by intro c hU; (repeat (first | with_reducible assumption | refine RdUp.ups ?_ (by with_reducible assumption) | with_reducible refine RdUp.set ?_ (by first | exact Nat.le_refl _ | (simp only []; omega) | (simp; omega)) _ | with_reducible refine RdUp.alloc ?_ _ | with_reducible refine RdUp.drew ?_ | with_reducible exact RdUp.of (Up.refl _)))) (by omega)).mono ?_); rintro e w' ⟨x, rfl, x0, x1, hU, U⟩; have D := gcell U.1; have Z := U.1.size; (try simp at Z); (try have Y0 : w.heap.size < w'.heap.size := (by omega)); (try have Y1 : w.heap.size + 1 < w'.heap.size := (by omega)); (try have Y2 : w.heap.size + 1 + 1 < w'.heap.size := (by omega)); (try have X0 : w.heap.size < w'.heap.size + 1 := (by omega)); (try have X1 : w.heap.size + 1 < w'.heap.size + 1 := (by omega)); (try have X2 : w.heap.size + 1 + 1 < w'.heap.size + 1 := (by omega)); (have ho := own_rd ho hrb U.1; obtain ⟨hm0, hm1⟩ := mod_bd x part (by omega) (by omega)))) | (at_builtin; refine wpList_append_own _ rfl _ _ 22 rfl (w.heap.size + 1) 5 i0 (.int .u8 0) 1 1 Tryz.underlying22 hib hz0 hz1 hz2 rfl (by decide) _ _ _ rfl ((ho).alloc _) ⟨(w').heap.size, 0, none⟩ 1 1 [.int .u8 (x % part)] rfl rfl (new_cells [.int .u8 (x % part)] _ rfl) (by intro u hu; simp at hu; subst hu; rfl) (by unfold maxLen; omega) (by omega) (by simp; omega) ?_; rintro v2 w2 hown2 hgr2 -; have hsn := ownU_snocR hown2 (by omega) (by omega)))
          all_goals
            go_roundw
            case rel => exact ⟨_, k - 1, by go_num, by simp; omega, hsn, RdUp.mono ((hU.alloc _).gr hgr2 (fun y hy => by have := row_ge ho y hy; omega)) (by simp; omega), snoc_lt HA.out (by first | exact Int.emod_nonneg _ (by omega) | omega) (by first | omega | (have := Int.emod_lt_of_pos x (show 0 < part by omega); omega))⟩
            case measure => simp [intOf]; omega
      · obtain ⟨a, c, rfl⟩ := ownsRow_shape ho
        have cv := conv_any ho rfl
        clear ho
        go_wp2
        go_ret
        refine ⟨_, rfl, ⟨_, rfl, by rw [bs_size]; omega, by rw [bs_data]; exact HA.out⟩, ?_⟩
        exact RdUp.fin hU (by intro c hU; (repeat (first | with_reducible assumption | refine RdUp.ups ?_ (by with_reducible assumption) | with_reducible refine RdUp.set ?_ (by first | exact Nat.le_refl _ | (simp only []; omega) | (simp; omega)) _ | with_reducible refine RdUp.alloc ?_ _ | with_reducible refine RdUp.drew ?_ | with_reducible exact RdUp.of (Up.refl _)))) (by omega)
theorem l1DataB_as (m : Int) (n : Nat) (hm : m = n) (rb : Nat) (B : Value) (s : SetD) (w : World) (N : Nat) (h : Rdr rb B w N) (hN : N ≤ 1000000000) (hn : n ≤ 1000) (hs : setOk s = true) :
    Calls Tryz.prog 30  #[.pointer (some ⟨rb, 0, none⟩), setV s, .int .i64 m] w (Drawn rb B 3010 (IsStrB n (clr s)) w) := by subst hm; exact l1DataB_any rb B s n w N h hN hn hs
end Go.Proofs.YtekogcjdaolcbaaGreatDoor

/- Walks of the reference's draws of containers and blocks. Conditions: the reader is one (Rdr), its place is bounded. -/
namespace Go.Proofs.YtekogcjdaolcbaaGreatDoor
open Go Go.RowKit
theorem upOut_D {P : Program} (D : Value → World → Prop) {w : World} {r : Result Next} (h : upOut P D w r) : upOut P D w r := h
def LitR (rb : Nat) (v : Value) (w : World) : Prop := ∃ (b : Nat) (x : Int), v = .slice (some ⟨b, 0, none⟩) 1 1 ∧ b < w.heap.size ∧ b ≠ rb ∧ w.cell? ⟨b, 0, none⟩ = some (.int .u8 x)
theorem litR_closed {rb : Nat} : ∀ (v : Value) (w w' : World), LitR rb v w → w.grownBy w' (some rb) → LitR rb v w' := fun v w w' ⟨b, x, h1, h2, h3, h4⟩ hg =>
  ⟨b, x, h1, Nat.lt_of_lt_of_le h2 hg.size, h3, ((gcell hg).1 b 0 h2 (fun e => h3 (Option.some.inj e))).trans h4⟩
theorem litR_new {rb : Nat} {w : World} {x : Int} (hlt : rb < w.heap.size) (h0 : 0 ≤ x) (h1 : x ≤ 255) : LitR rb (.slice (some ⟨w.heap.size, 0, none⟩) 1 1) (w.alloc (.cells #[.int .u8 x] 5)) :=
  ⟨w.heap.size, x, rfl, by simp, by omega, by rw [box_cell (MapKept.heap_alloc w _).1]; rfl⟩
def LitS (v : Value) (w : World) (x : Int) : Prop := (convert 22 9 v).run Tryz.prog w = .ok (.string (strOfNums [x])) w
theorem litR_open {rb : Nat} {v : Value} {w : World} (h : LitR rb v w) : ∃ x, LitS v w x := by
  obtain ⟨b, x, rfl, -, -, h4⟩ := h
  exact ⟨x, conv_one w b x h4⟩
theorem litR_conv {v : Value} {w : World} {x : Int} (h : LitS v w x) : (convert 22 9 v).run Tryz.prog w = .ok (.string (strOfNums [x])) w := h
theorem draw_atM {rb : Nat} {B : Value} {c d N M : Nat} {w0 w1 w : World} {D : Value → Prop} {f : FuncId} {args : Array Value} (hf : ∀ w N, Rdr rb B w N → N ≤ M → Calls Tryz.prog f args w (Drawn rb B d D w)) (h : Rdr rb B w0 N) (hU1 : RdUp rb B c w0 w1) (hx : ∀ c, RdUp rb B c w0 w1 → RdUp rb B c w0 w) (hN : N + c ≤ M) :
    Calls Tryz.prog f args w (fun e w' => ∃ v, e = .returned v ∧ D v ∧ RdUp rb B (c + d) w0 w' ∧ RdUp rb B d w w') :=
  (hf w (N + c) ((hx c hU1).2 N h) hN).mono fun e w' ⟨v, he, h1, hu⟩ => ⟨v, he, h1, (hx c hU1).trans hu, hu⟩
end Go.Proofs.YtekogcjdaolcbaaGreatDoor

/- Walks of the reference's draws of a block, from the bytes of an input. Conditions: the bytes can be read. -/
namespace Go.Proofs.YtekogcjdaolcbaaGreatDoor
open Go Go.RowKit
def ArgU (w : World) (v : Value) (l : List UInt8) : Prop := ∃ (a : Option Addr) (cap : Nat), v = .slice a l.length cap ∧ l.length ≤ cap ∧ cap ≤ maxLen ∧
  (0 < l.length → ∃ b off, a = some ⟨b, off, none⟩ ∧ b < w.heap.size ∧ ∀ i x, l[i]? = some x → w.cell? ⟨b, off + i, none⟩ = some (.int .u8 x.toNat))
theorem ArgU.up {w w' : World} {v : Value} {l : List UInt8} (h : ArgU w v l) (hu : Up w w') : ArgU w' v l := by
  obtain ⟨a, cap, h1, h2, h3, h4⟩ := h
  refine ⟨a, cap, h1, h2, h3, fun hp => ?_⟩
  obtain ⟨b, off, e1, e2, e3⟩ := h4 hp
  exact ⟨b, off, e1, Nat.lt_of_lt_of_le e2 (Below.size hu), fun i x hi => (Below.cell (p := ⟨b, off + i, none⟩) hu e2).trans (e3 i x hi)⟩
theorem open_at {w : World} {v : Value} {l : List UInt8} (h : ArgU w v l) : Calls Tryz.prog 28  #[v] w (fun e w' => ∃ B, e = .returned (.pointer (some ⟨w.heap.size, 0, none⟩)) ∧ Rdr w.heap.size B w' 0 ∧ Up w w') := by
  obtain ⟨a, cap, h1, h2, h3, h4⟩ := h
  exact open_any v l w a cap h1 h2 h3 h4
end Go.Proofs.YtekogcjdaolcbaaGreatDoor

/- Walk of the reference's l5Places. Conditions: the blocks are those of a string (accOk) and can be read. -/
namespace Go.Proofs.YtekogcjdaolcbaaGreatDoor
open Go.RowKit
structure PlaceD where
  place : Int
  start : Int
end Go.Proofs.YtekogcjdaolcbaaGreatDoor

/- Walks of IndexOf, the program's and the reference's. Conditions: the string's length is below 2^30. -/
namespace Go.Proofs.YtekogcjdaolcbaaGreatDoor
open Go.RowKit
theorem box_other {w : World} {b : Nat} {o : Obj} (h : w.heap[b]? = some o) {p : Addr} (hp : b ≠ p.block) (u : Value) : (w.setCell p u).heap[b]? = some o := by
  rw [Below.heap_setCell _ _ _ _ hp]; exact h
end Go.Proofs.YtekogcjdaolcbaaGreatDoor

/- Walks of the reference's draws of data that may not fit, of settings that may not be valid, of dictionaries. Conditions: the reader is one (Rdr), its place is bounded. -/
namespace Go.Proofs.YtekogcjdaolcbaaGreatDoor
open Go Go.RowKit
def isSetB (v : Value) : Prop := ∃ s : SetD, v = setV s ∧ (-9223372036854775808 ≤ s.lit ∧ s.lit ≤ 9223372036854775807)
theorem isSetB_mk (a b c : Int) (h : -9223372036854775808 ≤ b ∧ b ≤ 9223372036854775807) : isSetB (.agg #[.int .i64 a, .int .i64 b, .int .i64 c]) := ⟨⟨a, b, c⟩, rfl, h⟩
set_option maxRecDepth 100000 in
set_option maxHeartbeats 4000000 in
theorem l1BadB_any (rb : Nat) (B : Value) (s : SetD) (w : World) (N : Nat) (h : Rdr rb B w N) (hN : N ≤ 1000000000) (hs : setOk s = true) :
    Calls Tryz.prog 130  #[.pointer (some ⟨rb, 0, none⟩), setV s] w (Drawn rb B 2 isSetB w) := by
  have hlt := h.lt
  have HR := Lib.hid h
  have hne0 : ¬ w.heap.size = rb := by omega
  have hne1 : ¬ w.heap.size + 1 = rb := by omega
  have hU := RdUp.refl rb B 0 w
  have e1 : w.heap.size < w.heap.size + 1 := by omega
  have e2 : w.heap.size < w.heap.size + 1 + 1 := by omega
  have e3 : w.heap.size + 1 < w.heap.size + 1 + 1 := by omega
  have hlb := (setOk_bd hs).2.1
  obtain ⟨hlb1, hlb2⟩ := hlb
  clear hs
  simp only [setV]
  go_enter Tryz.func130, Tryz.ntmps130
  go_wp2_with (first | (go_at_call 85; ((with_reducible refine (num_at ([-1, 2]) HR.out hU (by intro c hU; (repeat (first | with_reducible assumption | refine RdUp.ups ?_ (by with_reducible assumption) | with_reducible refine RdUp.set ?_ (by first | exact Nat.le_refl _ | (simp only []; omega) | (simp; omega)) _ | with_reducible refine RdUp.alloc ?_ _ | with_reducible refine RdUp.drew ?_ | with_reducible exact RdUp.of (Up.refl _)))) (by omega) (by first | rfl | (simp; done) | fail) (by first | rfl | (simp; done) | fail) (by first | rfl | (simp; done) | fail) (by simp) (by simp) (by first | rfl | (simp; done) | fail)).mono ?_); rintro e w' ⟨i, rfl, hi, hU, U⟩; have D := gcell U.1; have Z := U.1.size; (try simp at Z); (try have Y0 : w.heap.size < w'.heap.size := (by omega)); (try have Y1 : w.heap.size + 1 < w'.heap.size := (by omega)); (try have Y2 : w.heap.size + 1 + 1 < w'.heap.size := (by omega)); (try have X0 : w.heap.size < w'.heap.size + 1 := (by omega)); (try have X1 : w.heap.size + 1 < w'.heap.size + 1 := (by omega)); (try have X2 : w.heap.size + 1 + 1 < w'.heap.size + 1 := (by omega)); (clear hi))) | (go_at_call 85; ((with_reducible refine (num_at ([0, 9, -1, 9223372036854775807]) HR.out hU (by intro c hU; (repeat (first | with_reducible assumption | refine RdUp.ups ?_ (by with_reducible assumption) | with_reducible refine RdUp.set ?_ (by first | exact Nat.le_refl _ | (simp only []; omega) | (simp; omega)) _ | with_reducible refine RdUp.alloc ?_ _ | with_reducible refine RdUp.drew ?_ | with_reducible exact RdUp.of (Up.refl _)))) (by omega) (by first | rfl | (simp; done) | fail) (by first | rfl | (simp; done) | fail) (by first | rfl | (simp; done) | fail) (by simp) (by simp) (by first | rfl | (simp; done) | fail)).mono ?_); rintro e w' ⟨i, rfl, hi, hU, U⟩; have D := gcell U.1; have Z := U.1.size; (try simp at Z); (try have Y0 : w.heap.size < w'.heap.size := (by omega)); (try have Y1 : w.heap.size + 1 < w'.heap.size := (by omega)); (try have Y2 : w.heap.size + 1 + 1 < w'.heap.size := (by omega)); (try have X0 : w.heap.size < w'.heap.size + 1 := (by omega)); (try have X1 : w.heap.size + 1 < w'.heap.size + 1 := (by omega)); (try have X2 : w.heap.size + 1 + 1 < w'.heap.size + 1 := (by omega)); ((have hlx : -9223372036854775808 ≤ i ∧ i ≤ 9223372036854775807 := (by simp at hi; omega)); clear hi))) | (go_at_call 85; ((with_reducible refine (num_at ([s.lit + 1, 11, -1, -9223372036854775808]) HR.out hU (by intro c hU; (repeat (first | with_reducible assumption | refine RdUp.ups ?_ (by with_reducible assumption) | with_reducible refine RdUp.set ?_ (by first | exact Nat.le_refl _ | (simp only []; omega) | (simp; omega)) _ | with_reducible refine RdUp.alloc ?_ _ | with_reducible refine RdUp.drew ?_ | with_reducible exact RdUp.of (Up.refl _)))) (by omega) (by first | rfl | (simp; done) | fail) (by first | rfl | (simp; done) | fail) (by first | rfl | (simp; done) | fail) (by simp) (by simp) (by first | rfl | (simp; done) | fail)).mono ?_); rintro e w' ⟨i, rfl, hi, hU, U⟩; have D := gcell U.1; have Z := U.1.size; (try simp at Z); (try have Y0 : w.heap.size < w'.heap.size := (by omega)); (try have Y1 : w.heap.size + 1 < w'.heap.size := (by omega)); (try have Y2 : w.heap.size + 1 + 1 < w'.heap.size := (by omega)); (try have X0 : w.heap.size < w'.heap.size + 1 := (by omega)); (try have X1 : w.heap.size + 1 < w'.heap.size + 1 := (by omega)); (try have X2 : w.heap.size + 1 + 1 < w'.heap.size + 1 := (by omega)); (clear hi))) | (go_at_call 31; ((with_reducible refine (pick_at HR.out hU (by intro c hU; (repeat (first | with_reducible assumption | refine RdUp.ups ?_ (by with_reducible assumption) | with_reducible refine RdUp.set ?_ (by first | exact Nat.le_refl _ | (simp only []; omega) | (simp; omega)) _ | with_reducible refine RdUp.alloc ?_ _ | with_reducible refine RdUp.drew ?_ | with_reducible exact RdUp.of (Up.refl _)))) (by omega)).mono ?_); rintro e w' ⟨i, rfl, hi0, hi1, hU, U⟩; have D := gcell U.1; have Z := U.1.size; (try simp at Z); (try have Y0 : w.heap.size < w'.heap.size := (by omega)); (try have Y1 : w.heap.size + 1 < w'.heap.size := (by omega)); (try have Y2 : w.heap.size + 1 + 1 < w'.heap.size := (by omega)); (try have X0 : w.heap.size < w'.heap.size + 1 := (by omega)); (try have X1 : w.heap.size + 1 < w'.heap.size + 1 := (by omega)); (try have X2 : w.heap.size + 1 + 1 < w'.heap.size + 1 := (by omega)))))
  all_goals
    have q0 : w'.cell? ⟨w.heap.size + 1, 0, none⟩ = some (.int .i64 0) := by simp [go_sem, *]
    have q1 : w'.cell? ⟨w.heap.size + 1, 1, none⟩ = some (.int .i64 0) := by simp [go_sem, *]
    have q2 : w'.cell? ⟨w.heap.size + 1, 2, none⟩ = some (.int .i64 0) := by simp [go_sem, *]
    refine bodyPost_ret (v := _) (by simp [results, Tryz.results130, go_sem, q0, q1, q2]; rfl) rfl ?_
    refine ⟨_, rfl, isSetB_mk _ _ _ (by first | omega | assumption), ?_⟩
    exact RdUp.fin hU (by intro c hU; (repeat (first | with_reducible assumption | refine RdUp.ups ?_ (by with_reducible assumption) | with_reducible refine RdUp.set ?_ (by first | exact Nat.le_refl _ | (simp only []; omega) | (simp; omega)) _ | with_reducible refine RdUp.alloc ?_ _ | with_reducible refine RdUp.drew ?_ | with_reducible exact RdUp.of (Up.refl _)))) (by omega)
theorem upOut_ex {f : FuncId} {args : Array Value} {w : World} {D : Value → Prop} (h : Calls Tryz.prog f args w (fun e w' => ∃ v, e = .returned v ∧ Up w w' ∧ D v)) : upOut Tryz.prog (fun v _ => D v) w (.ok (.enter f args) w) := ⟨rfl, h⟩
theorem RdInts.gr {rb : Nat} {w w' : World} {v : Value} {l : List Int} (h : RdInts rb w v l) (hg : w.grownBy w' (some rb)) : RdInts rb w' v l := by
  obtain ⟨b, off, cap, h1, h2, h3, h4, h5, h6⟩ := h
  exact ⟨b, off, cap, h1, h2, h3, Nat.lt_of_lt_of_le h4 hg.size, h5, fun i x hi => ((gcell hg).1 b _ h4 (fun e => h5 (Option.some.inj e))).trans (h6 i x hi)⟩
theorem rdInts_new {rb : Nat} {w : World} {T : TypeId} (l : List Int) {cs : Array Value} (hcs : cs = (l.map (Value.int .i64)).toArray) (hl : l.length ≤ 100) {n cap : Nat} (hn : n = l.length) (hc : cap = n) (hlt : rb < w.heap.size) : RdInts rb (w.alloc (.cells cs T)) (.slice (some ⟨w.heap.size, 0, none⟩) n cap) l := by
  subst hcs hc hn
  refine ⟨w.heap.size, 0, l.length, rfl, Nat.le_refl _, by unfold maxLen; omega, by simp, by omega, fun i x hi => ?_⟩
  rw [box_cell (MapKept.heap_alloc w _).1, Nat.zero_add]
  simp [hi]
theorem many_str (s : ByteArray) (i : Int) (M : Nat) (h0 : 0 ≤ i) (h1 : i ≤ M) (hM : M ≤ 2001) (hs : s.size ≤ 1) (w : World) : Calls Tryz.prog 87  #[.string s, .int .i64 i] w (fun e w' => ∃ v, e = .returned v ∧ Up w w' ∧ IsStr M v) := by
  obtain ⟨n, rfl⟩ := Int.eq_ofNat_of_zero_le h0
  have hn : n ≤ M := by omega
  have hb : n * s.size ≤ n := by
    have := Nat.mul_le_mul_left n hs
    omega
  refine (l9Many_any s n w (by omega) (by omega) (by omega)).mono fun e w' ⟨he, hw⟩ => ⟨_, he, hw ▸ Up.refl _, _, rfl, ?_⟩
  rw [bs_size, rep_length, ba_len]; omega
set_option maxRecDepth 100000 in
set_option maxHeartbeats 8000000 in
theorem l1Wild_any (rb : Nat) (B : Value) (d : ByteArray) (w : World) (N : Nat) (h : Rdr rb B w N) (hN : N ≤ 900000000) (hd : d.size ≤ 1000) :
    Calls Tryz.prog 32  #[.pointer (some ⟨rb, 0, none⟩), .string d] w (Drawn rb B 10 (IsStr 2001) w) := by
  obtain ⟨p, hp, h, HM⟩ := h.least
  have hlt := h.lt
  have HR := Lib.hid h
  have hU := RdUp.refl rb B 0 w
  have hcv := conv_new1
  have hz255 : (strOfNums [255]).size = 1 := strOfNums_size _
  go_enter Tryz.func32, Tryz.ntmps32
  go_wp2_with (first | (go_at_call 31; ((with_reducible refine (pick_at (n := 40) HR.out hU (by intro c hU; (repeat (first | with_reducible assumption | refine RdUp.ups ?_ (by with_reducible assumption) | with_reducible refine RdUp.set ?_ (by first | exact Nat.le_refl _ | (simp only []; omega) | (simp; omega)) _ | with_reducible refine RdUp.alloc ?_ _ | with_reducible refine RdUp.drew ?_ | with_reducible exact RdUp.of (Up.refl _)))) (by omega)).mono ?_); rintro e w' ⟨x, rfl, x0, x1, hU, U⟩; have D := gcell U.1; have Z := U.1.size; (try simp at Z); (try have Y0 : w.heap.size < w'.heap.size := (by omega)); (try have Y1 : w.heap.size + 1 < w'.heap.size := (by omega)); (try have Y2 : w.heap.size + 1 + 1 < w'.heap.size := (by omega)); (try have X0 : w.heap.size < w'.heap.size + 1 := (by omega)); (try have X1 : w.heap.size + 1 < w'.heap.size + 1 := (by omega)); (try have X2 : w.heap.size + 1 + 1 < w'.heap.size + 1 := (by omega)); (skip))))
  all_goals first
    | (go_ret
       exact ⟨_, rfl, ⟨_, rfl, (by first | omega | (rw [ByteArray.size_append, strOfNums_size]; show _ + 1 ≤ _; omega))⟩, by exact RdUp.fin hU (by intro c hU; (repeat (first | with_reducible assumption | refine RdUp.ups ?_ (by with_reducible assumption) | with_reducible refine RdUp.set ?_ (by first | exact Nat.le_refl _ | (simp only []; omega) | (simp; omega)) _ | with_reducible refine RdUp.alloc ?_ _ | with_reducible refine RdUp.drew ?_ | with_reducible exact RdUp.of (Up.refl _)))) (by omega)⟩)
    | skip
  have hr2 := hU.2 _ h
  refine wp_region_rd 6 rb B 1 (p + (0 + 1)) (by kernel_rfl) (by kernel_rfl) hr2 ?_
  simp only [List.take, List.drop]
  repeat (refine wpR_step (fun K hK => ?_); go_simp; (try simp only [↓IntWalk.iteOmega]); first
    | (refine hK _ _ ?_; clear hK K)
    | (refine stepR_c ?_ ?_ ?_
       rotate_left
       · intro wq hwq hrq; (have hbq := gcell hwq; (repeat (first | refine fills_no (by rfl) ?_ | (refine fills_yes (by rfl) (fun vq hvq => ?_); (try ((first | ((with_reducible have hl : LitR rb vq wq := hvq); obtain ⟨x, hlv⟩ := litR_open hl) | ((with_reducible have hvi : RdInts rb wq vq [2000, 2001] := hvq)) | ((with_reducible have hvs : IsStr 1 vq := hvq); obtain ⟨sb, rfl, hsb⟩ := hvs) | ((with_reducible have hvo : oneOf [2000, 2001] vq := hvq); obtain ⟨i, rfl, hi9⟩ := hvo))))))); simp only [List.filter_nil, fills]; unfold upAt; (try (skip)); go_simp; (try go_bits); (try simp only [↓IntWalk.iteOmega]); (try (rw [dif_pos (by omega)]; go_simp; try go_bits)); first | exact upOut_value)
       go_simp; refine hK _ _ ?_; clear hK K)
    | (refine stepR_m (by kernel_rfl) ?_ ?_ (fun wq hwq hrq => ?_) ?_
       rotate_left 2
       · (have hbq := gcell hwq; (repeat (first | refine fills_no (by rfl) ?_ | (refine fills_yes (by rfl) (fun vq hvq => ?_); (try ((first | ((with_reducible have hl : LitR rb vq wq := hvq); obtain ⟨x, hlv⟩ := litR_open hl) | ((with_reducible have hvi : RdInts rb wq vq [2000, 2001] := hvq)) | ((with_reducible have hvs : IsStr 1 vq := hvq); obtain ⟨sb, rfl, hsb⟩ := hvs) | ((with_reducible have hvo : oneOf [2000, 2001] vq := hvq); obtain ⟨i, rfl, hi9⟩ := hvo))))))); simp only [List.filter_nil, fills]; unfold upAt; (try (skip)); go_simp; (try go_bits); (try simp only [↓IntWalk.iteOmega]); (try (rw [dif_pos (by omega)]; go_simp; try go_bits)); first | ((with_reducible refine upOut_D (LitR rb) ?_); (((with_reducible refine upOut_make ((Up.refl _).alloc _) ?_); exact litR_new hrq.lt (by omega) (by omega)))) | ((with_reducible refine upOut_D (fun v _ => IsStr 1 v) ?_); ((rw [litR_conv hlv]; (try go_simp); (with_reducible refine upOut_make (Up.refl _) ?_); exact ⟨_, rfl, by rw [strOfNums_size]; exact Nat.le_refl _⟩))) | ((with_reducible refine upOut_D ((fun v w => RdInts rb w v [2000, 2001])) ?_); (((with_reducible refine upOut_make ((Up.refl _).alloc _) ?_); exact rdInts_new [2000, 2001] rfl (by decide) rfl rfl hrq.lt))) | ((with_reducible refine upOut_D (fun v _ => IsStr 2001 v) ?_); ((with_reducible refine upOut_ex (many_str _ _ 2001 (by simp at hi9; omega) (by simp at hi9; omega) (by omega) hsb _)))))
       rotate_left
       · (first | exact (fun _ _ _ h _ => h) | exact (litR_closed) | exact ((fun v w w' h hg => RdInts.gr h hg)))
       refine hK _ _ ?_; clear hK K)
    | (refine stepR_d (by rfl) (by kernel_rfl) (fun v _ => oneOf [2000, 2001] v) (fun _ _ _ h _ => h) (fun wq hwq hrq => ?_) ?_
       · (have hbq := gcell hwq; (repeat (first | refine fills_no (by rfl) ?_ | (refine fills_yes (by rfl) (fun vq hvq => ?_); (try ((first | ((with_reducible have hl : LitR rb vq wq := hvq); obtain ⟨x, hlv⟩ := litR_open hl) | ((with_reducible have hvi : RdInts rb wq vq [2000, 2001] := hvq)) | ((with_reducible have hvs : IsStr 1 vq := hvq); obtain ⟨sb, rfl, hsb⟩ := hvs) | ((with_reducible have hvo : oneOf [2000, 2001] vq := hvq); obtain ⟨i, rfl, hi9⟩ := hvo))))))); simp only [List.filter_nil, fills]; unfold gAt; (try (skip)); go_simp; (try go_bits); (try simp only [↓IntWalk.iteOmega]); (try (rw [dif_pos (by omega)]; go_simp; try go_bits)); (with_reducible refine gOut_drawn ((num_any rb B [2000, 2001] _ wq _ hrq (by omega) hvi (by decide))) ?_); decide)
       refine hK _ _ ?_; clear hK K))
  refine wpR_nil (fun wq hwq hrq => ?_)
  simp only [fills]
  rintro v9 ⟨sb, rfl, hsb⟩
  intros
  have hU := RdUp.made (C := 10) HM (grownBy_trans hU.1 hwq) hrq (by omega)
  go_wp2
  rw [onlyN_normal]
  go_wp2
  go_ret
  exact ⟨_, rfl, ⟨_, rfl, hsb⟩, by exact RdUp.fin hU (by intro c hU; (repeat (first | with_reducible assumption | refine RdUp.ups ?_ (by with_reducible assumption) | with_reducible refine RdUp.set ?_ (by first | exact Nat.le_refl _ | (simp only []; omega) | (simp; omega)) _ | with_reducible refine RdUp.alloc ?_ _ | with_reducible refine RdUp.drew ?_ | with_reducible exact RdUp.of (Up.refl _)))) (by omega)⟩
end Go.Proofs.YtekogcjdaolcbaaGreatDoor

/- Texts joined into one: Imp1, Imp2. Conditions: as each says. -/
/- Walks of the program's functions on settings. Conditions: the setting is valid where it says so. -/
namespace Go.Proofs.YtekogcjdaolcbaaGreatDoor
open Go.RowKit
set_option maxRecDepth 100000 in
set_option maxHeartbeats 1000000 in
theorem orderI_any (n : Int) (w : World) :
    Calls Tryz.prog 142  #[.int .i64 n] w (fun e w' => e = .returned (.bool (n == 0 || n == 1)) ∧ w = w') := by
  by_cases h : n = 0
  · subst h
    go_enter Tryz.func142, Tryz.ntmps142
    go_wp2
    go_ret
    exact ⟨rfl, rfl⟩
  · have h' : (n == 0) = false := by simpa using h
    go_enter Tryz.func142, Tryz.ntmps142
    go_wp2
    go_ret
    exact ⟨ret_bool (by rw [h', Bool.false_or]), rfl⟩
set_option maxRecDepth 100000 in
set_option maxHeartbeats 1000000 in
theorem setI_any (o l m : Int) (w : World) (hl : -9223372036854775808 ≤ l ∧ l ≤ 9223372036854775807) :
    Calls Tryz.prog 89  #[.agg #[.int .i64 o, .int .i64 l, .int .i64 m]] w (Same (.bool (setOk ⟨o, l, m⟩)) w) := by
  cases h1 : (o == 0 || o == 1)
  · go_enter Tryz.func89, Tryz.ntmps89
    go_wp2_with (first | (go_at_call 142; (with_reducible refine (orderI_any _ _).mono ?_); rintro e w' ⟨rfl, rfl⟩))
    go_ret
    refine ⟨ret_bool (by simp only [setOk, h1]; rfl), ?_⟩
    (repeat (first | exact Up.refl _ | refine Up.alloc ?_ _ | refine Up.drew ?_ | refine Up.set ?_ (by first | exact Nat.le_refl _ | (simp; done) | (simp; omega)) _ | refine Up.trans ?_ (by with_reducible assumption)))
  · by_cases h2 : 1 ≤ l
    · by_cases h3 : l ≤ 8
      · have e2 : inB l 1 8 = true := inB_iff.2 ⟨h2, h3⟩
        by_cases h4 : l + 2 ≤ m
        all_goals
          go_enter Tryz.func89, Tryz.ntmps89
          go_wp2_with (first | (go_at_call 142; (with_reducible refine (orderI_any _ _).mono ?_); rintro e w' ⟨rfl, rfl⟩))
          go_ret
          refine ⟨ret_bool (by simp only [setOk, h1, e2]; simp [inB]; try omega), ?_⟩
          (repeat (first | exact Up.refl _ | refine Up.alloc ?_ _ | refine Up.drew ?_ | refine Up.set ?_ (by first | exact Nat.le_refl _ | (simp; done) | (simp; omega)) _ | refine Up.trans ?_ (by with_reducible assumption)))
      · have e2 : inB l 1 8 = false := inB_not.2 (by omega)
        go_enter Tryz.func89, Tryz.ntmps89
        go_wp2_with (first | (go_at_call 142; (with_reducible refine (orderI_any _ _).mono ?_); rintro e w' ⟨rfl, rfl⟩))
        go_ret
        refine ⟨ret_bool (by simp only [setOk, h1, e2]; rfl), ?_⟩
        (repeat (first | exact Up.refl _ | refine Up.alloc ?_ _ | refine Up.drew ?_ | refine Up.set ?_ (by first | exact Nat.le_refl _ | (simp; done) | (simp; omega)) _ | refine Up.trans ?_ (by with_reducible assumption)))
    · have e2 : inB l 1 8 = false := inB_not.2 (by omega)
      go_enter Tryz.func89, Tryz.ntmps89
      go_wp2_with (first | (go_at_call 142; (with_reducible refine (orderI_any _ _).mono ?_); rintro e w' ⟨rfl, rfl⟩))
      go_ret
      refine ⟨ret_bool (by simp only [setOk, h1, e2]; rfl), ?_⟩
      (repeat (first | exact Up.refl _ | refine Up.alloc ?_ _ | refine Up.drew ?_ | refine Up.set ?_ (by first | exact Nat.le_refl _ | (simp; done) | (simp; omega)) _ | refine Up.trans ?_ (by with_reducible assumption)))
theorem setI_ok (s : SetD) (w : World) (h : setOk s = true) : Calls Tryz.prog 89  #[setV s] w (Same (.bool true) w) := by
  obtain ⟨-, h1, -, -⟩ := setOk_bd h
  have := setI_any s.ord s.lit s.most w (by omega)
  rw [show (⟨s.ord, s.lit, s.most⟩ : SetD) = s from rfl, h] at this
  exact this
set_option maxRecDepth 100000 in
set_option maxHeartbeats 1000000 in
theorem clearI_any (s : SetD) (w : World) (h : setOk s = true) :
    Calls Tryz.prog 40  #[setV s] w (Same (.int .i64 (clr s)) w) := by
  have cS := fun w => setI_ok s w h
  obtain ⟨o, l, m⟩ := s
  obtain ⟨-, ⟨h1, h2⟩, -, -⟩ := setOk_bd h
  simp only at h1 h2
  obtain ⟨n, rfl⟩ : ∃ n : Nat, l = n := ⟨l.toNat, by omega⟩
  clear h
  have e : Hid (((2 ^ n : Nat) : Int) = (clr ⟨o, n, m⟩ : Nat)) := rfl
  have hp := pow2_small (n := n) (by omega)
  simp only [setV] at *
  go_enter Tryz.func40, Tryz.ntmps40
  go_wp2_with ((go_at_call 89; (with_reducible refine (cS _).mono ?_); rintro e w1 ⟨rfl, U1⟩; have B1 := bcell U1; have Z1 := U1.size; (try simp at Z1); (try rw [Nat.add_one_le_iff] at Z1)))
  go_ret
  refine ⟨ret_int (by rw [← e.out]; first | rfl | (simp; done) | (rw [IntWalk.wrap64_in _ (by omega)]; simp)), ?_⟩
  (repeat (first | exact Up.refl _ | refine Up.alloc ?_ _ | refine Up.drew ?_ | refine Up.set ?_ (by first | exact Nat.le_refl _ | (simp; done) | (simp; omega)) _ | refine Up.trans ?_ (by with_reducible assumption)))
set_option maxRecDepth 100000 in
set_option maxHeartbeats 1000000 in
theorem endI_any (s : SetD) (w : World) (h : setOk s = true) :
    Calls Tryz.prog 58  #[setV s] w (Same (.int .i64 ((clr s : Int) + 1)) w) := by
  have cS := fun w => setI_ok s w h
  obtain ⟨o, l, m⟩ := s
  obtain ⟨-, ⟨h1, h2⟩, -, -⟩ := setOk_bd h
  simp only at h1 h2
  obtain ⟨n, rfl⟩ : ∃ n : Nat, l = n := ⟨l.toNat, by omega⟩
  clear h
  have e : Hid (((2 ^ n : Nat) : Int) = (clr ⟨o, n, m⟩ : Nat)) := rfl
  have hp := pow2_small (n := n) (by omega)
  simp only [setV] at *
  go_enter Tryz.func58, Tryz.ntmps58
  go_wp2_with ((go_at_call 89; (with_reducible refine (cS _).mono ?_); rintro e w1 ⟨rfl, U1⟩; have B1 := bcell U1; have Z1 := U1.size; (try simp at Z1); (try rw [Nat.add_one_le_iff] at Z1)))
  go_ret
  refine ⟨ret_int (by rw [← e.out]; first | rfl | (simp; done) | (rw [IntWalk.wrap64_in _ (by omega)]; simp)), ?_⟩
  (repeat (first | exact Up.refl _ | refine Up.alloc ?_ _ | refine Up.drew ?_ | refine Up.set ?_ (by first | exact Nat.le_refl _ | (simp; done) | (simp; omega)) _ | refine Up.trans ?_ (by with_reducible assumption)))
set_option maxRecDepth 100000 in
set_option maxHeartbeats 1000000 in
theorem lastI_any (s : SetD) (w : World) (h : setOk s = true) :
    Calls Tryz.prog 97  #[setV s] w (Same (.int .i64 (lastC s : Nat)) w) := by
  have cS := fun w => setI_ok s w h
  obtain ⟨o, l, m⟩ := s
  obtain ⟨-, ⟨h1, h2⟩, h3, h4⟩ := setOk_bd h
  simp only at h1 h2 h3 h4
  obtain ⟨n, rfl⟩ : ∃ n : Nat, m = n := ⟨m.toNat, by omega⟩
  clear h
  have hq : 0 < 2 ^ n := Nat.pow_pos (by decide)
  have e : Hid (((2 ^ n : Nat) : Int) - 1 = ((lastC ⟨o, l, n⟩ : Nat) : Int)) := by
    show ((2 ^ n : Nat) : Int) - 1 = ((2 ^ n - 1 : Nat) : Int)
    omega
  have hp := pow2_small (n := n) (by omega)
  clear hq
  simp only [setV] at *
  go_enter Tryz.func97, Tryz.ntmps97
  go_wp2_with ((go_at_call 89; (with_reducible refine (cS _).mono ?_); rintro e w1 ⟨rfl, U1⟩; have B1 := bcell U1; have Z1 := U1.size; (try simp at Z1); (try rw [Nat.add_one_le_iff] at Z1)))
  go_ret
  refine ⟨ret_int (by rw [← e.out]; first | rfl | (simp; done) | (rw [IntWalk.wrap64_in _ (by omega)]; simp)), ?_⟩
  (repeat (first | exact Up.refl _ | refine Up.alloc ?_ _ | refine Up.drew ?_ | refine Up.set ?_ (by first | exact Nat.le_refl _ | (simp; done) | (simp; omega)) _ | refine Up.trans ?_ (by with_reducible assumption)))
end Go.Proofs.YtekogcjdaolcbaaGreatDoor
/- Walks of the program's small functions on what is known. Conditions: the setting is valid, the pairs are few. -/
namespace Go.Proofs.YtekogcjdaolcbaaGreatDoor
open Go.RowKit
abbrev knV (s : SetD) (a : Option Addr) (n c : Nat) (ba la : Int) : Value := .agg #[.int .i64 s.ord, .int .i64 s.lit, .int .i64 s.most, .slice a n c, .int .i64 ba, .int .i64 la]
theorem clr_le {s : SetD} (h : setOk s = true) : 2 ≤ clr s ∧ clr s ≤ 256 ∧ lastC s ≤ 1023 := by have := clr_bd h; omega
set_option maxRecDepth 100000 in
set_option maxHeartbeats 1000000 in
theorem nextI_any (s : SetD) (ba la : Int) (a : Option Addr) (n c : Nat) (w : World) (h : setOk s = true) (hn : n ≤ 100000) :
    Calls Tryz.prog 94  #[knV s a n c ba la] w (Same (.int .i64 ((clr s : Int) + 2 + n)) w) := by
  have cE := fun w => endI_any s w h
  obtain ⟨hb1, hb2, hb3⟩ := clr_le h
  have e : Hid ((clr s : Int) + 2 + n = clr s + 1 + 1 + n) := by unfold Hid; omega
  rw [e.out]
  generalize clr s = c at *
  obtain ⟨o, l, m⟩ := s
  simp only [knV] at *
  clear h
  go_enter Tryz.func94, Tryz.ntmps94
  go_wp2
  refine wp_region_up 8 (by kernel_rfl) (by kernel_rfl) ?_
  simp only [List.take, List.drop]
  repeat (refine wpUp_step (fun K hK => ?_); go_simp; (try simp only [↓IntWalk.iteOmega]); first
    | (refine hK _ _ ?_; clear hK K)
    | (apply stepU_c
       · intro wq hwq; (have hbq := bcell hwq; (repeat (first | refine fills_no (by rfl) ?_ | refine fills_yes (by rfl) (fun vq hvq => ?_))); simp only [List.filter_nil, fills]; unfold upAt; go_simp; (try go_bits); (try simp only [↓IntWalk.iteOmega]); (try (rw [dif_pos (by omega)]; go_simp; try go_bits)); first | exact upOut_value | (apply upOut_call; (go_at_call 58; exact cE _)) | (apply upOut_eq; (go_at_call 58; exact cE _)))
       go_simp; refine hK _ _ ?_; clear hK K))
  refine wpUp_nil (fun wq hwq => ?_)
  simp only [fills]
  go_wp2
  go_ret
  refine ⟨rfl, ?_⟩
  (repeat (first | exact Up.refl _ | refine Up.alloc ?_ _ | refine Up.drew ?_ | refine Up.set ?_ (by first | exact Nat.le_refl _ | (simp; done) | (simp; omega)) _ | refine Up.trans ?_ (by with_reducible assumption)))
def growN (s : SetD) (n : Nat) (la : Int) : Bool := decide (la ≠ -1) && decide (clr s + 2 + n ≤ lastC s)
theorem growN_eq (k : KnD) : growN k.set k.ps.length k.last = k.grow := rfl
set_option maxRecDepth 100000 in
set_option maxHeartbeats 1000000 in
theorem growI_any (s : SetD) (ba la : Int) (a : Option Addr) (n c : Nat) (w : World) (h : setOk s = true) (hn : n ≤ 100000) :
    Calls Tryz.prog 92  #[knV s a n c ba la] w (Same (.bool (growN s n la)) w) := by
  have cN := fun w => nextI_any s ba la a n c w h hn
  have cL := fun w => lastI_any s w h
  obtain ⟨hb1, hb2, hb3⟩ := clr_le h
  by_cases hla : la = -1
  · have e : Hid (growN s n la = false) := by unfold Hid growN; rw [hla]; rfl
    rw [e.out]
    subst hla
    obtain ⟨o, l, m⟩ := s
    clear h cN cL
    simp only [knV]
    go_enter Tryz.func92, Tryz.ntmps92
    go_wp2
    refine wp_region_up 11 (by kernel_rfl) (by kernel_rfl) ?_
    simp only [List.take, List.drop]
    repeat (refine wpUp_step (fun K hK => ?_); go_simp; (try simp only [↓IntWalk.iteOmega]); first
      | (refine hK _ _ ?_; clear hK K)
      | (apply stepU_c
         · intro wq hwq; (have hbq := bcell hwq; (repeat (first | refine fills_no (by rfl) ?_ | refine fills_yes (by rfl) (fun vq hvq => ?_))); simp only [List.filter_nil, fills]; unfold upAt; go_simp; (try go_bits); (try simp only [↓IntWalk.iteOmega]); (try (rw [dif_pos (by omega)]; go_simp; try go_bits)); first | exact upOut_value)
         go_simp; refine hK _ _ ?_; clear hK K))
    refine wpUp_nil (fun wq hwq => ?_)
    simp only [fills]
    go_wp2
    go_ret
    refine ⟨rfl, ?_⟩
    (repeat (first | exact Up.refl _ | refine Up.alloc ?_ _ | refine Up.drew ?_ | refine Up.set ?_ (by first | exact Nat.le_refl _ | (simp; done) | (simp; omega)) _ | refine Up.trans ?_ (by with_reducible assumption)))
  · have e : Hid (growN s n la = decide (((clr s : Int) + 2 + n) ≤ ((lastC s : Nat) : Int))) := by
      unfold Hid growN
      rw [decide_eq_true hla, Bool.true_and, decide_eq_decide]; omega
    rw [e.out]
    generalize clr s = cc at *
    generalize lastC s = lc at *
    obtain ⟨o, l, m⟩ := s
    simp only [knV] at *
    clear h e
    go_enter Tryz.func92, Tryz.ntmps92
    go_wp2
    refine wp_region_up 11 (by kernel_rfl) (by kernel_rfl) ?_
    simp only [List.take, List.drop]
    repeat (refine wpUp_step (fun K hK => ?_); go_simp; (try simp only [↓IntWalk.iteOmega]); first
      | (refine hK _ _ ?_; clear hK K)
      | (apply stepU_c
         · intro wq hwq; (have hbq := bcell hwq; (repeat (first | refine fills_no (by rfl) ?_ | refine fills_yes (by rfl) (fun vq hvq => ?_))); simp only [List.filter_nil, fills]; unfold upAt; go_simp; (try go_bits); (try simp only [↓IntWalk.iteOmega]); (try (rw [dif_pos (by omega)]; go_simp; try go_bits)); first | exact upOut_value | (apply upOut_call; (go_at_call 94; exact cN _)) | (apply upOut_eq; (go_at_call 94; exact cN _)) | (apply upOut_call; (go_at_call 97; exact cL _)) | (apply upOut_eq; (go_at_call 97; exact cL _)))
         go_simp; refine hK _ _ ?_; clear hK K))
    refine wpUp_nil (fun wq hwq => ?_)
    simp only [fills]
    go_wp2
    go_ret
    refine ⟨ret_bool (by first | rfl | (simp; done) | (simp; omega)), ?_⟩
    (repeat (first | exact Up.refl _ | refine Up.alloc ?_ _ | refine Up.drew ?_ | refine Up.set ?_ (by first | exact Nat.le_refl _ | (simp; done) | (simp; omega)) _ | refine Up.trans ?_ (by with_reducible assumption)))
def topN (s : SetD) (n : Nat) (la : Int) : Nat := if growN s n la then clr s + 2 + n else clr s + 1 + n
theorem topN_eq (k : KnD) : topN k.set k.ps.length k.last = k.top := by
  unfold topN KnD.top
  rw [growN_eq]
  unfold KnD.next KnD.c
  split <;> omega
set_option maxRecDepth 100000 in
set_option maxHeartbeats 1000000 in
theorem topI_any (s : SetD) (ba la : Int) (a : Option Addr) (n c : Nat) (w : World) (h : setOk s = true) (hn : n ≤ 100000) :
    Calls Tryz.prog 140  #[knV s a n c ba la] w (Same (.int .i64 (topN s n la : Nat)) w) := by
  have cN := fun w => nextI_any s ba la a n c w h hn
  have cG := fun w => growI_any s ba la a n c w h hn
  obtain ⟨hb1, hb2, hb3⟩ := clr_le h
  cases hg : growN s n la
  · have e : Hid (((topN s n la : Nat) : Int) = (clr s : Int) + 2 + n - 1) := by unfold Hid topN; rw [hg]; simp; omega
    rw [e.out]
    rw [hg] at cG
    generalize clr s = cc at *
    obtain ⟨o, l, m⟩ := s
    simp only [knV] at *
    clear h e hg
    go_enter Tryz.func140, Tryz.ntmps140
    go_wp2_with (first | (go_at_call 92; (with_reducible refine (cG _).mono ?_); rintro e w1 ⟨rfl, U1⟩; have B1 := bcell U1; have Z1 := U1.size; (try simp at Z1); (try rw [Nat.add_one_le_iff] at Z1)) | (go_at_call 94; (with_reducible refine (cN _).mono ?_); rintro e w2 ⟨rfl, U2⟩; have B2 := bcell U2; have Z2 := U2.size; (try simp at Z2); (try rw [Nat.add_one_le_iff] at Z2)))
    go_ret
    refine ⟨rfl, ?_⟩
    (repeat (first | exact Up.refl _ | refine Up.alloc ?_ _ | refine Up.drew ?_ | refine Up.set ?_ (by first | exact Nat.le_refl _ | (simp; done) | (simp; omega)) _ | refine Up.trans ?_ (by with_reducible assumption)))
  · have e : Hid (((topN s n la : Nat) : Int) = (clr s : Int) + 2 + n) := by unfold Hid topN; rw [hg]; simp
    rw [e.out]
    rw [hg] at cG
    generalize clr s = cc at *
    obtain ⟨o, l, m⟩ := s
    simp only [knV] at *
    clear h e hg
    go_enter Tryz.func140, Tryz.ntmps140
    go_wp2_with (first | (go_at_call 92; (with_reducible refine (cG _).mono ?_); rintro e w1 ⟨rfl, U1⟩; have B1 := bcell U1; have Z1 := U1.size; (try simp at Z1); (try rw [Nat.add_one_le_iff] at Z1)) | (go_at_call 94; (with_reducible refine (cN _).mono ?_); rintro e w2 ⟨rfl, U2⟩; have B2 := bcell U2; have Z2 := U2.size; (try simp at Z2); (try rw [Nat.add_one_le_iff] at Z2)))
    go_ret
    refine ⟨rfl, ?_⟩
    (repeat (first | exact Up.refl _ | refine Up.alloc ?_ _ | refine Up.drew ?_ | refine Up.set ?_ (by first | exact Nat.le_refl _ | (simp; done) | (simp; omega)) _ | refine Up.trans ?_ (by with_reducible assumption)))
def fullN (s : SetD) (n : Nat) (ba : Int) : Bool := decide (lastC s < clr s + 2 + n) && decide (ba < n)
theorem fullN_eq (k : KnD) : fullN k.set k.ps.length k.base = k.full := rfl
set_option maxRecDepth 100000 in
set_option maxHeartbeats 1000000 in
theorem fullI_any (s : SetD) (ba la : Int) (a : Option Addr) (n c : Nat) (w : World) (h : setOk s = true) (hn : n ≤ 100000) :
    Calls Tryz.prog 39  #[knV s a n c ba la] w (Same (.bool (fullN s n ba)) w) := by
  have cN := fun w => nextI_any s ba la a n c w h hn
  have cL := fun w => lastI_any s w h
  obtain ⟨hb1, hb2, hb3⟩ := clr_le h
  by_cases hf : lastC s < clr s + 2 + n
  · have e : Hid (fullN s n ba = decide (ba < (n : Int))) := by unfold Hid fullN; rw [decide_eq_true hf]; rfl
    rw [e.out]
    generalize clr s = cc at *
    generalize lastC s = lc at *
    obtain ⟨o, l, m⟩ := s
    simp only [knV] at *
    clear h e
    go_enter Tryz.func39, Tryz.ntmps39
    go_wp2
    refine wp_region_up 14 (by kernel_rfl) (by kernel_rfl) ?_
    simp only [List.take, List.drop]
    repeat (refine wpUp_step (fun K hK => ?_); go_simp; (try simp only [↓IntWalk.iteOmega]); first
      | (refine hK _ _ ?_; clear hK K)
      | (apply stepU_c
         · intro wq hwq; (have hbq := bcell hwq; (repeat (first | refine fills_no (by rfl) ?_ | refine fills_yes (by rfl) (fun vq hvq => ?_))); simp only [List.filter_nil, fills]; unfold upAt; go_simp; (try go_bits); (try simp only [↓IntWalk.iteOmega]); (try (rw [dif_pos (by omega)]; go_simp; try go_bits)); first | exact upOut_value | (apply upOut_call; (go_at_call 94; exact cN _)) | (apply upOut_eq; (go_at_call 94; exact cN _)) | (apply upOut_call; (go_at_call 97; exact cL _)) | (apply upOut_eq; (go_at_call 97; exact cL _)))
         go_simp; refine hK _ _ ?_; clear hK K))
    refine wpUp_nil (fun wq hwq => ?_)
    simp only [fills]
    go_wp2
    go_ret
    refine ⟨ret_bool (by first | rfl | (simp; done) | (simp; omega)), ?_⟩
    (repeat (first | exact Up.refl _ | refine Up.alloc ?_ _ | refine Up.drew ?_ | refine Up.set ?_ (by first | exact Nat.le_refl _ | (simp; done) | (simp; omega)) _ | refine Up.trans ?_ (by with_reducible assumption)))
  · have e : Hid (fullN s n ba = false) := by unfold Hid fullN; rw [decide_eq_false hf]; rfl
    rw [e.out]
    generalize clr s = cc at *
    generalize lastC s = lc at *
    obtain ⟨o, l, m⟩ := s
    simp only [knV] at *
    clear h e
    go_enter Tryz.func39, Tryz.ntmps39
    go_wp2
    refine wp_region_up 14 (by kernel_rfl) (by kernel_rfl) ?_
    simp only [List.take, List.drop]
    repeat (refine wpUp_step (fun K hK => ?_); go_simp; (try simp only [↓IntWalk.iteOmega]); first
      | (refine hK _ _ ?_; clear hK K)
      | (apply stepU_c
         · intro wq hwq; (have hbq := bcell hwq; (repeat (first | refine fills_no (by rfl) ?_ | refine fills_yes (by rfl) (fun vq hvq => ?_))); simp only [List.filter_nil, fills]; unfold upAt; go_simp; (try go_bits); (try simp only [↓IntWalk.iteOmega]); (try (rw [dif_pos (by omega)]; go_simp; try go_bits)); first | exact upOut_value | (apply upOut_call; (go_at_call 94; exact cN _)) | (apply upOut_eq; (go_at_call 94; exact cN _)) | (apply upOut_call; (go_at_call 97; exact cL _)) | (apply upOut_eq; (go_at_call 97; exact cL _)))
         go_simp; refine hK _ _ ?_; clear hK K))
    refine wpUp_nil (fun wq hwq => ?_)
    simp only [fills]
    go_wp2
    go_ret
    refine ⟨rfl, ?_⟩
    (repeat (first | exact Up.refl _ | refine Up.alloc ?_ _ | refine Up.drew ?_ | refine Up.set ?_ (by first | exact Nat.le_refl _ | (simp; done) | (simp; omega)) _ | refine Up.trans ?_ (by with_reducible assumption)))
end Go.Proofs.YtekogcjdaolcbaaGreatDoor

/- Texts joined into one: Tree1, Tree2. Conditions: as each says. -/
/- Plain model of the program's tree of words: its nodes, in the order of their making, and the nodes of the pairs. Conditions: the pairs may stand where they stand (PrsOk). -/
namespace Go.Proofs.YtekogcjdaolcbaaGreatDoor
open Go.RowKit
structure NodD where
  par : Int
  las : Int
  fir : Int
  cod : Int
def nod0 : NodD := ⟨-1, 0, 0, 0⟩
def nodAt (ns : List NodD) (i : Nat) : NodD := ns.getD i nod0
theorem nodAt_app (ns : List NodD) (x : NodD) {i : Nat} (h : i < ns.length) : nodAt (ns ++ [x]) i = nodAt ns i := by
  unfold nodAt; rw [List.getD_eq_getElem?_getD, List.getD_eq_getElem?_getD, List.getElem?_append_left h]
theorem nodAt_new (ns : List NodD) (x : NodD) : nodAt (ns ++ [x]) ns.length = x := by
  unfold nodAt; rw [List.getD_eq_getElem?_getD, List.getElem?_append_right (Nat.le_refl _)]; simp
theorem nodAt_take (ns : List NodD) {i m : Nat} (h : i < m) : nodAt (ns.take m) i = nodAt ns i := by
  unfold nodAt; rw [List.getD_eq_getElem?_getD, List.getD_eq_getElem?_getD, List.getElem?_take, if_pos h]
theorem nodAt_get {ns : List NodD} {i : Nat} (h : i < ns.length) : nodAt ns i = ns[i] := by
  unfold nodAt; rw [List.getD_eq_getElem?_getD, List.getElem?_eq_getElem h]; rfl
def lastCh (ns : List NodD) (n : Int) : Nat → Int
  | 0 => -1
  | m + 1 => if (nodAt ns m).par = n then m else lastCh ns n m
def findCh (ns : List NodD) (n b : Int) : Nat → Int
  | 0 => -1
  | m + 1 => if (nodAt ns m).par = n ∧ (nodAt ns m).las = b then m else findCh ns n b m
theorem lastCh_bd (ns : List NodD) (n : Int) (m : Nat) : -1 ≤ lastCh ns n m ∧ lastCh ns n m < m := by
  induction m with
  | zero => simp [lastCh]
  | succ m ih => unfold lastCh; split <;> omega
theorem findCh_bd (ns : List NodD) (n b : Int) (m : Nat) : -1 ≤ findCh ns n b m ∧ findCh ns n b m < m := by
  induction m with
  | zero => simp [findCh]
  | succ m ih => unfold findCh; split <;> omega
theorem lastCh_cases (ns : List NodD) (n : Int) (m : Nat) : (lastCh ns n m = -1 ∧ ∀ j, j < m → (nodAt ns j).par ≠ n) ∨ ∃ j : Nat, j < m ∧ lastCh ns n m = j ∧ (nodAt ns j).par = n ∧ ∀ i, j < i → i < m → (nodAt ns i).par ≠ n := by
  induction m with
  | zero => exact .inl ⟨rfl, fun j hj => absurd hj (Nat.not_lt_zero _)⟩
  | succ m ih =>
    by_cases h : (nodAt ns m).par = n
    · refine .inr ⟨m, by omega, by rw [lastCh, if_pos h], h, fun i h1 h2 => by omega⟩
    · have e : lastCh ns n (m + 1) = lastCh ns n m := by rw [lastCh, if_neg h]
      rw [e]
      rcases ih with ⟨h1, h2⟩ | ⟨j, h1, h2, h3, h4⟩
      · refine .inl ⟨h1, fun j hj => ?_⟩
        rcases Nat.lt_or_ge j m with hl | hl
        · exact h2 j hl
        · have : j = m := by omega
          subst this; exact h
      · refine .inr ⟨j, by omega, h2, h3, fun i hi hi2 => ?_⟩
        rcases Nat.lt_or_ge i m with hl | hl
        · exact h4 i hi hl
        · have : i = m := by omega
          subst this; exact h
theorem findCh_cases (ns : List NodD) (n b : Int) (m : Nat) : (findCh ns n b m = -1 ∧ ∀ j, j < m → ¬ ((nodAt ns j).par = n ∧ (nodAt ns j).las = b)) ∨ ∃ j : Nat, j < m ∧ findCh ns n b m = j ∧ (nodAt ns j).par = n ∧ (nodAt ns j).las = b := by
  induction m with
  | zero => exact .inl ⟨rfl, fun j hj => absurd hj (Nat.not_lt_zero _)⟩
  | succ m ih =>
    by_cases h : (nodAt ns m).par = n ∧ (nodAt ns m).las = b
    · exact .inr ⟨m, by omega, by rw [findCh, if_pos h], h⟩
    · have e : findCh ns n b (m + 1) = findCh ns n b m := by rw [findCh, if_neg h]
      rw [e]
      rcases ih with ⟨h1, h2⟩ | ⟨j, h1, h2⟩
      · refine .inl ⟨h1, fun j hj => ?_⟩
        rcases Nat.lt_or_ge j m with hl | hl
        · exact h2 j hl
        · have : j = m := by omega
          subst this; exact h
      · exact .inr ⟨j, by omega, h2⟩
theorem find_none_last {ns : List NodD} {n : Int} {m : Nat} (h : lastCh ns n m = -1) (b : Int) : findCh ns n b m = -1 := by
  rcases findCh_cases ns n b m with ⟨h1, _⟩ | ⟨j, h1, _, h3, _⟩
  · exact h1
  · rcases lastCh_cases ns n m with ⟨_, h5⟩ | ⟨i, _, h6, _⟩
    · exact absurd h3 (h5 j h1)
    · omega
theorem find_last {ns : List NodD} {n : Int} {m j : Nat} (h : lastCh ns n m = j) (b : Int) : findCh ns n b m = if (nodAt ns j).las = b then (j : Int) else findCh ns n b j := by
  induction m with
  | zero => simp [lastCh] at h
  | succ m ih =>
    by_cases hp : (nodAt ns m).par = n
    · have e : lastCh ns n (m + 1) = m := by rw [lastCh, if_pos hp]
      have : j = m := by omega
      subst this
      rw [findCh]
      by_cases hl : (nodAt ns j).las = b
      · rw [if_pos ⟨hp, hl⟩, if_pos hl]
      · rw [if_neg (fun h => hl h.2), if_neg hl]
    · have e : lastCh ns n (m + 1) = lastCh ns n m := by rw [lastCh, if_neg hp]
      rw [e] at h
      rw [findCh, if_neg (fun h => hp h.1)]
      exact ih h
theorem lastCh_app (ns : List NodD) (x : NodD) (n : Int) : ∀ m, m ≤ ns.length → lastCh (ns ++ [x]) n m = lastCh ns n m
  | 0, _ => rfl
  | m + 1, h => by rw [lastCh, lastCh, nodAt_app ns x (by omega), lastCh_app ns x n m (by omega)]
theorem lastCh_take (ns : List NodD) (n : Int) (t : Nat) : ∀ m, m ≤ t → lastCh (ns.take t) n m = lastCh ns n m
  | 0, _ => rfl
  | m + 1, h => by rw [lastCh, lastCh, nodAt_take ns (by omega), lastCh_take ns n t m (by omega)]
theorem lastCh_new (ns : List NodD) (x : NodD) (n : Int) : lastCh (ns ++ [x]) n (ns.length + 1) = if x.par = n then (ns.length : Int) else lastCh ns n ns.length := by
  rw [lastCh, nodAt_new, lastCh_app ns x n _ (Nat.le_refl _)]
structure TreD where
  ns : List NodD
  ix : List Nat
def litsN (c : Nat) : List NodD := (List.range c).map fun (b : Nat) => ⟨-1, b, b, b⟩
def nodeOf (c : Nat) (t : TreD) (x : Int) : Nat := if x < c then x.toNat else t.ix.getD (x.toNat - (c + 2)) 0
def learnT (c : Nat) (t : TreD) (p : PairD) : TreD :=
  if findCh t.ns (nodeOf c t p.pre) p.byt t.ns.length < 0 then ⟨t.ns ++ [⟨nodeOf c t p.pre, p.byt, (nodAt t.ns (nodeOf c t p.pre)).fir, (c : Int) + 2 + t.ix.length⟩], t.ix ++ [t.ns.length]⟩
  else ⟨t.ns, t.ix ++ [(findCh t.ns (nodeOf c t p.pre) p.byt t.ns.length).toNat]⟩
def treeF (c : Nat) (ps : List PairD) : TreD := ps.foldl (learnT c) ⟨litsN c, []⟩
theorem treeF_snoc (c : Nat) (ps : List PairD) (p : PairD) : treeF c (ps ++ [p]) = learnT c (treeF c ps) p := by simp [treeF, List.foldl_append]
theorem litsN_length (c : Nat) : (litsN c).length = c := by simp [litsN]
theorem litsN_at {c i : Nat} (h : i < c) : nodAt (litsN c) i = ⟨-1, i, i, i⟩ := by
  rw [nodAt_get (by rw [litsN_length]; exact h)]; simp [litsN]
theorem nodeOf_app {c : Nat} {ns ns' : List NodD} {ix : List Nat} {n : Nat} {x : Int} (h : codeOk c ix.length x = true) : nodeOf c ⟨ns', ix ++ [n]⟩ x = nodeOf c ⟨ns, ix⟩ x := by
  rw [codeOk_iff] at h
  unfold nodeOf
  split
  · rfl
  · simp only []
    rw [List.getD_eq_getElem?_getD, List.getD_eq_getElem?_getD, List.getElem?_append_left (by omega)]
theorem nodeOf_new {c : Nat} {ns : List NodD} {ix : List Nat} {n : Nat} : nodeOf c ⟨ns, ix ++ [n]⟩ ((c : Int) + 2 + ix.length) = n := by
  unfold nodeOf
  rw [if_neg (by omega)]
  simp only []
  rw [List.getD_eq_getElem?_getD, List.getElem?_append_right (by omega), show ((c : Int) + 2 + ix.length).toNat - (c + 2) - ix.length = 0 by omega]
  rfl
structure TrOk (c : Nat) (ps : List PairD) (t : TreD) : Prop where
  ixl : t.ix.length = ps.length
  lo : c ≤ t.ns.length
  hi : t.ns.length ≤ c + ps.length
  lit : ∀ i : Nat, i < c → nodAt t.ns i = ⟨-1, i, i, i⟩
  par : ∀ i : Nat, c ≤ i → i < t.ns.length → ∃ p : Nat, (nodAt t.ns i).par = p ∧ p < i
  bytes : ∀ i : Nat, i < t.ns.length → 0 ≤ (nodAt t.ns i).las ∧ (nodAt t.ns i).las < c ∧ 0 ≤ (nodAt t.ns i).fir ∧ (nodAt t.ns i).fir < c
  code : ∀ i : Nat, i < t.ns.length → codeOk c ps.length (nodAt t.ns i).cod = true ∧ (c ≤ i → (c : Int) + 2 ≤ (nodAt t.ns i).cod)
  back : ∀ i : Nat, i < t.ns.length → nodeOf c t (nodAt t.ns i).cod = i
  inc : ∀ i j : Nat, i < j → j < t.ns.length → (nodAt t.ns i).cod < (nodAt t.ns j).cod
  node : ∀ x : Int, codeOk c ps.length x = true → nodeOf c t x < t.ns.length ∧ (nodAt t.ns (nodeOf c t x)).cod ≤ x ∧ wordP c ps (nodAt t.ns (nodeOf c t x)).cod = wordP c ps x
  word : ∀ i : Nat, c ≤ i → i < t.ns.length → wordP c ps (nodAt t.ns i).cod = wordP c ps (nodAt t.ns (nodAt t.ns i).par.toNat).cod ++ [ub (nodAt t.ns i).las]
  first : ∀ i : Nat, i < t.ns.length → (wordP c ps (nodAt t.ns i).cod).getD 0 0 = ub (nodAt t.ns i).fir
  inj : ∀ i j : Nat, i < t.ns.length → j < t.ns.length → wordP c ps (nodAt t.ns i).cod = wordP c ps (nodAt t.ns j).cod → i = j
theorem ub_inj {c : Nat} (hc : c ≤ 256) {a b : Int} (ha : 0 ≤ a ∧ a < c) (hb : 0 ≤ b ∧ b < c) (h : ub a = ub b) : a = b := by
  have h1 := ub_nat ha.1 (by omega)
  have h2 := ub_nat hb.1 (by omega)
  rw [h] at h1; omega
theorem trOk_nil {c : Nat} (hc : c ≤ 256) : TrOk c [] ⟨litsN c, []⟩ := by
  have hl := litsN_length c
  refine ⟨rfl, by simp only []; omega, by simp only []; omega, fun i hi => litsN_at hi, fun i h1 h2 => ?_, fun i hi => ?_, fun i hi => ?_, fun i hi => ?_, fun i j h1 h2 => ?_, fun x hx => ?_, fun i h1 h2 => ?_, fun i hi => ?_, fun i j hi hj h => ?_⟩
  all_goals simp only [hl] at *
  · omega
  · rw [litsN_at hi]; simp only []; omega
  · rw [litsN_at hi]; simp only []; rw [codeOk_iff]; omega
  · rw [litsN_at hi]; simp only [nodeOf]; rw [if_pos (by omega)]; omega
  · rw [litsN_at (by omega : i < c), litsN_at h2]; simp only []; omega
  · rw [codeOk_iff] at hx
    simp only [List.length_nil] at hx
    have e : nodeOf c ⟨litsN c, []⟩ x = x.toNat := by unfold nodeOf; rw [if_pos (by omega)]
    rw [e, litsN_at (by omega : x.toNat < c)]
    simp only []
    have : ((x.toNat : Nat) : Int) = x := by omega
    rw [this]
    exact ⟨by omega, by omega, rfl⟩
  · omega
  · rw [litsN_at hi]; simp only []; rw [wordP_lit (by omega)]; rfl
  · rw [litsN_at hi, litsN_at hj] at h
    simp only [] at h
    rw [wordP_lit (by omega), wordP_lit (by omega)] at h
    have := ub_inj hc (a := i) (b := j) (by omega) (by omega) (by simpa using h)
    omega
theorem word_split {c : Nat} {ps : List PairD} {t : TreD} (h : TrOk c ps t) {i : Nat} (hi : i < t.ns.length) : (i < c ∧ wordP c ps (nodAt t.ns i).cod = [ub i]) ∨ ∃ p : Nat, c ≤ i ∧ (nodAt t.ns i).par = p ∧ p < i ∧ wordP c ps (nodAt t.ns i).cod = wordP c ps (nodAt t.ns p).cod ++ [ub (nodAt t.ns i).las] := by
  by_cases hc : i < c
  · left
    refine ⟨hc, ?_⟩
    rw [h.lit i hc]; exact wordP_lit (by simp only []; omega)
  · right
    obtain ⟨p, h1, h2⟩ := h.par i (by omega) hi
    refine ⟨p, by omega, h1, h2, ?_⟩
    have := h.word i (by omega) hi
    rw [h1] at this
    exact this
theorem learnT_new {c : Nat} {t : TreD} {p : PairD} (h : findCh t.ns (nodeOf c t p.pre) p.byt t.ns.length < 0) : learnT c t p = ⟨t.ns ++ [⟨nodeOf c t p.pre, p.byt, (nodAt t.ns (nodeOf c t p.pre)).fir, (c : Int) + 2 + t.ix.length⟩], t.ix ++ [t.ns.length]⟩ := by
  unfold learnT; rw [if_pos h]
theorem learnT_old {c : Nat} {t : TreD} {p : PairD} (h : ¬ findCh t.ns (nodeOf c t p.pre) p.byt t.ns.length < 0) : learnT c t p = ⟨t.ns, t.ix ++ [(findCh t.ns (nodeOf c t p.pre) p.byt t.ns.length).toNat]⟩ := by
  unfold learnT; rw [if_neg h]
theorem codeOk_new {c n : Nat} {x : Int} (h : codeOk c (n + 1) x = true) : codeOk c n x = true ∨ x = (c : Int) + 2 + n := by
  rw [codeOk_iff] at *; omega
theorem trOk_learn {c : Nat} (hc : c ≤ 256) {ps : List PairD} {t : TreD} (h : TrOk c ps t) (hok : PrsOk c ps) {p : PairD} (h1 : codeOk c ps.length p.pre = true) (h2 : 0 ≤ p.byt) (h3 : p.byt < c) : TrOk c (ps ++ [p]) (learnT c t p) := by
  have hok' : PrsOk c (ps ++ [p]) := hok.snoc h1 h2 h3
  have hw : ∀ x, codeOk c ps.length x = true → wordP c (ps ++ [p]) x = wordP c ps x := fun x hx => wordP_app hx
  have hwn : wordP c (ps ++ [p]) ((c : Int) + 2 + ps.length) = wordP c ps p.pre ++ [ub p.byt] := by
    have := wordP_pair hok' (i := ps.length) (by simp)
    rw [this]
    simp only [List.getElem_append_right (Nat.le_refl _), Nat.sub_self, List.getElem_cons_zero]
    rw [hw _ h1]
  obtain ⟨hn1, hn2, hn3⟩ := h.node p.pre h1
  have hlen : (ps ++ [p]).length = ps.length + 1 := by simp
  have hcm : ∀ x, codeOk c ps.length x = true → codeOk c (ps ++ [p]).length x = true := fun x hx => codeOk_mono hx (by rw [hlen]; omega)
  obtain ⟨ns, ix⟩ := t
  have hixl : ix.length = ps.length := h.ixl
  by_cases hf : findCh ns (nodeOf c ⟨ns, ix⟩ p.pre) p.byt ns.length < 0
  · -- a new node
    rw [learnT_new (t := ⟨ns, ix⟩) hf]
    simp only [] at *
    have hnone : ∀ j, j < ns.length → ¬ ((nodAt ns j).par = (nodeOf c ⟨ns, ix⟩ p.pre : Nat) ∧ (nodAt ns j).las = p.byt) := by
      rcases findCh_cases ns (nodeOf c ⟨ns, ix⟩ p.pre) p.byt ns.length with ⟨_, hj⟩ | ⟨j, _, hj, _⟩
      · exact hj
      · omega
    generalize hP : nodeOf c ⟨ns, ix⟩ p.pre = P at *
    generalize hx : (⟨(P : Int), p.byt, (nodAt ns P).fir, (c : Int) + 2 + ix.length⟩ : NodD) = X at *
    have hX1 : X.par = P := by rw [← hx]
    have hX2 : X.las = p.byt := by rw [← hx]
    have hX3 : X.fir = (nodAt ns P).fir := by rw [← hx]
    have hX4 : X.cod = (c : Int) + 2 + ps.length := by rw [← hx, hixl]
    have hl : (ns ++ [X]).length = ns.length + 1 := by simp
    have hold : ∀ i, i < ns.length → nodAt (ns ++ [X]) i = nodAt ns i := fun i hi => nodAt_app ns X hi
    have hnew : nodAt (ns ++ [X]) ns.length = X := nodAt_new ns X
    have hcod : ∀ i, i < ns.length → codeOk c ps.length (nodAt ns i).cod = true := fun i hi => (h.code i hi).1
    have hPw : wordP c (ps ++ [p]) (nodAt ns P).cod = wordP c ps p.pre := by rw [hw _ (hcod P hn1), hn3]
    have hXw : wordP c (ps ++ [p]) X.cod = wordP c ps p.pre ++ [ub p.byt] := by rw [hX4, hwn]
    have hcas : ∀ i, i < ns.length + 1 → i < ns.length ∨ i = ns.length := fun i hi => by omega
    -- no old node has the new word
    have hfresh : ∀ i, i < ns.length → wordP c ps (nodAt ns i).cod ≠ wordP c ps p.pre ++ [ub p.byt] := fun i hi e => by
      rcases word_split h hi with ⟨_, e2⟩ | ⟨q, hq1, hq2, hq3, e2⟩
      · simp only [] at e2
        rw [e2] at e
        have := congrArg List.length e
        have hne := wordP_pos hok h1
        rw [List.length_append] at this
        simp only [List.length_cons, List.length_nil] at this
        omega
      · simp only [] at e2 hq2
        rw [e2] at e
        obtain ⟨ea, eb⟩ := List.append_inj' e rfl
        have hqP : q = P := h.inj q P (by simp only []; omega) hn1 (by simp only []; rw [ea, hn3])
        obtain ⟨b1, b2, -, -⟩ := h.bytes i hi
        have hb := ub_inj hc (a := (nodAt ns i).las) (b := p.byt) ⟨b1, b2⟩ ⟨h2, h3⟩ (by simpa using eb)
        exact hnone i hi ⟨by rw [hq2, hqP], hb⟩
    refine ⟨by simp [hixl], by simp only [hl]; have := h.lo; simp only [] at this; omega, by simp only [hl, hlen]; have := h.hi; simp only [] at this; omega, fun i hi => ?_, fun i hi1 hi2 => ?_, fun i hi => ?_, fun i hi => ?_, fun i hi => ?_, fun i j hi hj => ?_, fun x hxo => ?_, fun i hi1 hi2 => ?_, fun i hi => ?_, fun i j hi hj e => ?_⟩
    all_goals simp only [hl] at *
    · have := h.lo; simp only [] at this
      rw [hold i (by omega)]; exact h.lit i hi
    · rcases hcas i hi2 with hi | rfl
      · rw [hold i hi]; exact h.par i hi1 hi
      · rw [hnew]; exact ⟨P, hX1, hn1⟩
    · rcases hcas i hi with hi | rfl
      · rw [hold i hi]; exact h.bytes i hi
      · rw [hnew, hX2, hX3]; have := h.bytes P hn1; exact ⟨h2, h3, this.2.2.1, this.2.2.2⟩
    · rcases hcas i hi with hi | rfl
      · rw [hold i hi]; exact ⟨hcm _ (hcod i hi), (h.code i hi).2⟩
      · rw [hnew, hX4, codeOk_iff, hlen]; omega
    · rcases hcas i hi with hi | rfl
      · rw [hold i hi, nodeOf_app (ns := ns) (by rw [hixl]; exact hcod i hi)]; exact h.back i hi
      · rw [hnew, hX4, ← hixl]; exact nodeOf_new
    · rcases hcas j hj with hj | rfl
      · rw [hold i (by omega), hold j hj]; exact h.inc i j hi hj
      · rw [hold i hi, hnew, hX4]; have := hcod i hi; rw [codeOk_iff] at this; omega
    · rw [hlen] at hxo
      rcases codeOk_new hxo with hxo | rfl
      · rw [nodeOf_app (ns := ns) (by rw [hixl]; exact hxo)]
        obtain ⟨a1, a2, a3⟩ := h.node x hxo
        simp only [] at a1 a2 a3
        rw [hold _ a1, hw _ (hcod _ a1), hw _ hxo]
        exact ⟨by omega, a2, a3⟩
      · have e : nodeOf c ⟨ns ++ [X], ix ++ [ns.length]⟩ ((c : Int) + 2 + ps.length) = ns.length := by rw [← hixl]; exact nodeOf_new
        rw [e, hnew, hX4]
        exact ⟨by omega, by omega, rfl⟩
    · rcases hcas i hi2 with hi | rfl
      · obtain ⟨q, hq1, hq2⟩ := h.par i hi1 hi
        have := h.word i hi1 hi
        simp only [] at this hq1
        rw [hold i hi, hw _ (hcod i hi), this, hq1, Int.toNat_natCast, hold q (by omega), hw _ (hcod q (by omega))]
      · rw [hnew, hXw, hX1, hX2, Int.toNat_natCast, hold P hn1, hPw]
    · rcases hcas i hi with hi | rfl
      · rw [hold i hi, hw _ (hcod i hi)]; exact h.first i hi
      · rw [hnew, hXw, hX3]
        have := h.first P hn1
        simp only [] at this
        rw [hn3] at this
        rw [← this]
        have hne := wordP_pos hok h1
        rw [List.getD_eq_getElem?_getD, List.getD_eq_getElem?_getD, List.getElem?_append_left (by omega)]
    · rcases hcas i hi with hi | rfl <;> rcases hcas j hj with hj | rfl
      · rw [hold i hi, hold j hj, hw _ (hcod i hi), hw _ (hcod j hj)] at e; exact h.inj i j hi hj e
      · rw [hold i hi, hnew, hXw, hw _ (hcod i hi)] at e; exact absurd e (hfresh i hi)
      · rw [hold j hj, hnew, hXw, hw _ (hcod j hj)] at e; exact absurd e.symm (hfresh j hj)
      · rfl
  · -- a node that is there
    rw [learnT_old (t := ⟨ns, ix⟩) hf]
    simp only [] at *
    obtain ⟨j, hj, hje, hj1, hj2⟩ : ∃ j : Nat, j < ns.length ∧ findCh ns (nodeOf c ⟨ns, ix⟩ p.pre) p.byt ns.length = j ∧ (nodAt ns j).par = (nodeOf c ⟨ns, ix⟩ p.pre : Nat) ∧ (nodAt ns j).las = p.byt := by
      rcases findCh_cases ns (nodeOf c ⟨ns, ix⟩ p.pre) p.byt ns.length with ⟨hj, _⟩ | hj
      · omega
      · exact hj
    rw [hje, Int.toNat_natCast]
    have hcod : ∀ i, i < ns.length → codeOk c ps.length (nodAt ns i).cod = true := fun i hi => (h.code i hi).1
    have hjc : c ≤ j := by
      rcases Nat.lt_or_ge j c with hl | hl
      · have := h.lit j hl
        simp only [] at this
        rw [this] at hj1
        simp only [] at hj1; omega
      · exact hl
    have hjw : wordP c ps (nodAt ns j).cod = wordP c ps p.pre ++ [ub p.byt] := by
      have := h.word j hjc hj
      simp only [] at this
      rw [this, hj1, hj2, Int.toNat_natCast, hn3]
    refine ⟨by simp [hixl], h.lo, by simp only [hlen]; have := h.hi; simp only [] at this; omega, h.lit, h.par, h.bytes, fun i hi => ⟨hcm _ (hcod i hi), (h.code i hi).2⟩, fun i hi => ?_, h.inc, fun x hxo => ?_, fun i hi1 hi2 => ?_, fun i hi => ?_, fun a b ha hb e => ?_⟩
    all_goals simp only [] at *
    · rw [nodeOf_app (ns := ns) (by rw [hixl]; exact hcod i hi)]; exact h.back i hi
    · rw [hlen] at hxo
      rcases codeOk_new hxo with hxo | rfl
      · rw [nodeOf_app (ns := ns) (by rw [hixl]; exact hxo)]
        obtain ⟨a1, a2, a3⟩ := h.node x hxo
        simp only [] at a1 a2 a3
        rw [hw _ (hcod _ a1), hw _ hxo]
        exact ⟨a1, a2, a3⟩
      · have e : nodeOf c ⟨ns, ix ++ [j]⟩ ((c : Int) + 2 + ps.length) = j := by rw [← hixl]; exact nodeOf_new
        rw [e, hw _ (hcod j hj), hjw, hwn]
        have := hcod j hj
        rw [codeOk_iff] at this
        exact ⟨hj, by omega, rfl⟩
    · obtain ⟨q, hq1, hq2⟩ := h.par i hi1 hi2
      have := h.word i hi1 hi2
      simp only [] at this hq1
      rw [hw _ (hcod i hi2), this, hq1, Int.toNat_natCast, hw _ (hcod q (by omega))]
    · rw [hw _ (hcod i hi)]; exact h.first i hi
    · rw [hw _ (hcod a ha), hw _ (hcod b hb)] at e; exact h.inj a b ha hb e
theorem treeF_ok {c : Nat} (hc : c ≤ 256) {ps : List PairD} (hok : PrsOk c ps) : TrOk c ps (treeF c ps) := by
  induction ps using snoc_ind with
  | h0 => exact trOk_nil hc
  | h1 l a ih =>
    have hl : PrsOk c l := by have := hok.take l.length; rwa [List.take_left] at this
    have ha := hok.get (i := l.length) (by simp)
    simp only [List.getElem_append_right (Nat.le_refl _), Nat.sub_self, List.getElem_cons_zero] at ha
    rw [treeF_snoc]
    exact trOk_learn hc (ih hl) hl ha.1 ha.2.1 ha.2.2
end Go.Proofs.YtekogcjdaolcbaaGreatDoor
/- Plain facts on the program's tree of words: what a clear code leaves of it, and that the deepest node that begins data gives the longest word and its code. Conditions: what is known is valid (KnD.Ok). -/
namespace Go.Proofs.YtekogcjdaolcbaaGreatDoor
open Go.RowKit
theorem learnT_app (c : Nat) (t : TreD) (p : PairD) : ∃ N X, (learnT c t p).ns = t.ns ++ N ∧ (learnT c t p).ix = t.ix ++ X ∧ X.length = 1 ∧ ∀ x ∈ N, x.cod = (c : Int) + 2 + t.ix.length := by
  by_cases hf : findCh t.ns (nodeOf c t p.pre) p.byt t.ns.length < 0
  · rw [learnT_new hf]
    exact ⟨_, _, rfl, rfl, rfl, fun x hx => by simp only [List.mem_singleton] at hx; rw [hx]⟩
  · rw [learnT_old hf]
    exact ⟨[], _, by simp, rfl, rfl, fun x hx => by cases hx⟩
theorem treeF_ixl (c : Nat) (ps : List PairD) : (treeF c ps).ix.length = ps.length := by
  induction ps using snoc_ind with
  | h0 => rfl
  | h1 l a ih =>
    obtain ⟨N, X, _, h2, h3, _⟩ := learnT_app c (treeF c l) a
    rw [treeF_snoc, h2, List.length_append, ih, h3]; simp
theorem treeF_app (c : Nat) (ps qs : List PairD) : ∃ N X, (treeF c (ps ++ qs)).ns = (treeF c ps).ns ++ N ∧ (treeF c (ps ++ qs)).ix = (treeF c ps).ix ++ X ∧ ∀ x ∈ N, (c : Int) + 2 + ps.length ≤ x.cod := by
  induction qs using snoc_ind with
  | h0 => exact ⟨[], [], by simp, by simp, fun x hx => by cases hx⟩
  | h1 l a ih =>
    obtain ⟨N, X, h1, h2, h3⟩ := ih
    obtain ⟨N', X', g1, g2, g3, g4⟩ := learnT_app c (treeF c (ps ++ l)) a
    refine ⟨N ++ N', X ++ X', ?_, ?_, fun x hx => ?_⟩
    · rw [← List.append_assoc, treeF_snoc, g1, h1, List.append_assoc]
    · rw [← List.append_assoc, treeF_snoc, g2, h2, List.append_assoc]
    · rcases List.mem_append.1 hx with hx | hx
      · exact h3 x hx
      · rw [g4 x hx, treeF_ixl, List.length_append]; omega
theorem treeF_take {c : Nat} (hc : c ≤ 256) {ps : List PairD} (hok : PrsOk c ps) (b : Nat) (hb : b ≤ ps.length) :
    (treeF c (ps.take b)).ns = (treeF c ps).ns.take (treeF c (ps.take b)).ns.length ∧ (treeF c (ps.take b)).ix = (treeF c ps).ix.take b ∧ (treeF c (ps.take b)).ns.length ≤ (treeF c ps).ns.length ∧
    (∀ i, (treeF c (ps.take b)).ns.length ≤ i → i < (treeF c ps).ns.length → (c : Int) + 2 + b ≤ (nodAt (treeF c ps).ns i).cod) ∧ (∀ i, i < (treeF c (ps.take b)).ns.length → (nodAt (treeF c ps).ns i).cod < (c : Int) + 2 + b) := by
  obtain ⟨N, X, h1, h2, h3⟩ := treeF_app c (ps.take b) (ps.drop b)
  rw [List.take_append_drop] at h1 h2
  have hlb : (ps.take b).length = b := by rw [List.length_take]; omega
  have hT := treeF_ok hc (hok.take b)
  have hixl : (treeF c (ps.take b)).ix.length = b := by rw [treeF_ixl, hlb]
  refine ⟨by rw [h1, List.take_left], by rw [h2]; conv => rhs; arg 1; rw [← hixl]
                                         rw [List.take_left], by rw [h1, List.length_append]; omega, fun i h4 h5 => ?_, fun i hi => ?_⟩
  · rw [h1, List.length_append] at h5
    rw [h1]
    unfold nodAt
    rw [List.getD_eq_getElem?_getD, List.getElem?_append_right h4, List.getElem?_eq_getElem (by omega), Option.getD_some]
    have := h3 _ (List.getElem_mem (by omega : i - (treeF c (ps.take b)).ns.length < N.length))
    rw [hlb] at this; exact this
  · have := (hT.code i hi).1
    rw [hlb] at this
    rw [h1]
    have e : nodAt ((treeF c (ps.take b)).ns ++ N) i = nodAt (treeF c (ps.take b)).ns i := by
      unfold nodAt; rw [List.getD_eq_getElem?_getD, List.getD_eq_getElem?_getD, List.getElem?_append_left hi]
    rw [e]
    rw [codeOk_iff] at this; omega
namespace KnD
def tree (k : KnD) : TreD := treeF k.c k.ps
end KnD
theorem KnD.Ok.tree {k : KnD} (h : k.Ok) : TrOk k.c k.ps k.tree := treeF_ok h.c_bd.2.1 h.ps
theorem KnD.longN_max {k : KnD} {d : List UInt8} {n : Nat} : ∀ i, i < n → (k.any ((k.c : Int) + 2 + i)).length ≤ d.length → d.take (k.any ((k.c : Int) + 2 + i)).length = k.any ((k.c : Int) + 2 + i) → (k.any ((k.c : Int) + 2 + i)).length ≤ (k.longN d n).length := by
  induction n with
  | zero => intro i hi; exact absurd hi (Nat.not_lt_zero _)
  | succ n ih =>
    intro i hi h1 h2
    have hmono : (k.longN d n).length ≤ (k.longN d (n + 1)).length := by
      rw [KnD.longN]
      split
      · next h => omega
      · exact Nat.le_refl _
    rcases Nat.lt_or_ge i n with hl | hl
    · exact Nat.le_trans (ih i hl h1 h2) hmono
    · have e : i = n := by omega
      subst e
      rw [KnD.longN]
      split
      · exact Nat.le_refl _
      · next h =>
        rcases Nat.lt_or_ge (k.longN d i).length (k.any ((k.c : Int) + 2 + i)).length with h4 | h4
        · exact absurd ⟨h4, h1, h2⟩ h
        · exact h4
theorem KnD.longest_max {k : KnD} (hk : k.Ok) {d : List UInt8} (hd : d ≠ []) {x : Int} (hf : k.follows x = true) {m : Nat} (hm : m ≤ d.length) (hw : k.any x = d.take m) : m ≤ (k.longest d).length := by
  have hl : (k.any x).length = m := by rw [hw, List.length_take]; omega
  rcases (by
    rcases KnD.follows_cases hk hf with hc | ⟨hg, rfl, _⟩
    · rcases codeOk_iff.1 hc with h | h
      · exact .inl h
      · refine .inr ⟨(x - k.c - 2).toNat, ?_, by omega⟩
        rw [KnD.cnt_eq]; omega
    · refine .inr ⟨k.ps.length, ?_, by unfold KnD.next; omega⟩
      rw [KnD.cnt_eq, hg]; simp : (0 ≤ x ∧ x < k.c) ∨ ∃ i : Nat, i < k.cnt ∧ x = (k.c : Int) + 2 + i) with h | ⟨i, h1, rfl⟩
  · rw [KnD.any_lit hk h.1 h.2] at hl
    have := KnD.longest_pos (k := k) hd
    simp at hl; omega
  · have := KnD.longN_max (k := k) (d := d) (n := k.cnt) i h1 (by omega) (by rw [hl, hw])
    unfold KnD.longest; omega
theorem KnD.find_least {k : KnD} (hk : k.Ok) {w : List UInt8} {y : Int} (hf : k.follows y = true) (hy : k.any y = w) : k.find w ≤ y := by
  have hy2 : (0 ≤ y ∧ y < k.c) ∨ ∃ i : Nat, i < k.cnt ∧ y = (k.c : Int) + 2 + i := by
    rcases KnD.follows_cases hk hf with hc | ⟨hg, rfl, _⟩
    · rcases codeOk_iff.1 hc with h | h
      · exact .inl h
      · refine .inr ⟨(y - k.c - 2).toNat, ?_, by omega⟩
        rw [KnD.cnt_eq]; omega
    · refine .inr ⟨k.ps.length, ?_, by unfold KnD.next; omega⟩
      rw [KnD.cnt_eq, hg]; simp
  have hcb := hk.c_bd
  by_cases hl : w.length = 1 ∧ (w.getD 0 0).toNat < k.c
  · rw [KnD.find_lit hl]
    rcases hy2 with h | ⟨i, h1, rfl⟩
    · rw [KnD.any_lit hk h.1 h.2] at hy
      rw [← hy]
      have := ub_nat h.1 (by omega : y < 256)
      simp only [List.getD_cons_zero]; omega
    · omega
  · have hyc : ∃ i : Nat, i < k.cnt ∧ y = (k.c : Int) + 2 + i := by
      rcases hy2 with h | h
      · exfalso
        apply hl
        rw [← hy, KnD.any_lit hk h.1 h.2]
        have := ub_nat h.1 (by omega : y < 256)
        exact ⟨rfl, by simp only [List.getD_cons_zero]; omega⟩
      · exact h
    obtain ⟨i, hi, rfl⟩ := hyc
    unfold KnD.find
    rw [if_neg hl]
    cases hq : (List.range k.cnt).find? (fun (i : Nat) => k.any ((k.c : Int) + 2 + i) == w) with
    | none => show (-1 : Int) ≤ _; omega
    | some j =>
      rw [List.find?_range_eq_some] at hq
      obtain ⟨-, -, h3⟩ := hq
      simp only []
      rcases Nat.lt_or_ge i j with h4 | h4
      · have := h3 i h4
        simp [hy] at this
      · omega
theorem deep_none {c : Nat} (hc : c ≤ 256) {ps : List PairD} {t : TreD} (h : TrOk c ps t) {d : List UInt8} (hl : ∀ b ∈ d, b.toNat < c) {n size : Nat} (hn : n < t.ns.length) (hs1 : 1 ≤ size) (hw : wordP c ps (nodAt t.ns n).cod = d.take size)
    (hstop : size = d.length ∨ ∃ b, d[size]? = some b ∧ findCh t.ns n (b.toNat : Int) t.ns.length = -1) : ∀ m, size < m → m ≤ d.length → ∀ i, i < t.ns.length → wordP c ps (nodAt t.ns i).cod ≠ d.take m := by
  intro m
  induction m with
  | zero => intro hm; omega
  | succ m ih =>
    intro hm1 hm2 i hi e
    have hdm : d.take (m + 1) = d.take m ++ [d[m]'(by omega)] := List.take_succ_eq_append_getElem (by omega)
    rcases word_split h hi with ⟨_, e2⟩ | ⟨p, hp1, hp2, hp3, e2⟩
    · rw [e2] at e
      have := congrArg List.length e
      rw [List.length_take] at this
      simp at this; omega
    · rw [e2, hdm] at e
      obtain ⟨ea, eb⟩ := List.append_inj' e rfl
      rcases Nat.lt_or_ge size m with hl2 | hl2
      · exact ih hl2 (by omega) p (by omega) ea
      · have hms : m = size := by omega
        subst hms
        rcases hstop with hst | ⟨b, hb1, hb2⟩
        · omega
        · have hpn : p = n := h.inj p n (by omega) hn (by rw [ea, hw])
          have hbd : d[m]'(by omega) = b := by rw [List.getElem?_eq_getElem (by omega)] at hb1; exact Option.some.inj hb1
          have hbl := hl b (List.mem_of_getElem? hb1)
          obtain ⟨b1, b2, -, -⟩ := h.bytes i hi
          have hlas : (nodAt t.ns i).las = (b.toNat : Int) := by
            rw [hbd] at eb
            have h5 : ub (nodAt t.ns i).las = ub (b.toNat : Int) := by rw [ub_self]; simpa using eb
            exact ub_inj hc ⟨b1, b2⟩ ⟨by omega, by omega⟩ h5
          rcases findCh_cases t.ns n (b.toNat : Int) t.ns.length with ⟨_, h6⟩ | ⟨j, h6, h7, _⟩
          · exact h6 i hi ⟨by rw [hp2, hpn], hlas⟩
          · omega
theorem KnD.deep_longest {k : KnD} (hk : k.Ok) {d : List UInt8} (hl : ∀ b ∈ d, b.toNat < k.c) {n size : Nat} (hn : n < k.tree.ns.length) (hs1 : 1 ≤ size) (hs2 : size ≤ d.length) (hw : k.word (nodAt k.tree.ns n).cod = d.take size)
    (hstop : size = d.length ∨ ∃ b, d[size]? = some b ∧ findCh k.tree.ns n (b.toNat : Int) k.tree.ns.length = -1) :
    if ∃ b, d[size]? = some b ∧ k.grow = true ∧ n = nodeOf k.c k.tree k.last ∧ (b.toNat : Int) = (nodAt k.tree.ns n).fir then k.find (k.longest d) = k.next ∧ (k.longest d).length = size + 1
    else k.find (k.longest d) = (nodAt k.tree.ns n).cod ∧ (k.longest d).length = size := by
  have hT := hk.tree
  have hcb := hk.c_bd
  have hd : d ≠ [] := by intro e; subst e; simp at hs2; omega
  have hnone := deep_none hcb.2.1 hT hl hn hs1 hw hstop
  obtain ⟨hf, ha⟩ := KnD.find_any hk hd hl
  have htk := KnD.longest_take (k := k) d
  have hle := KnD.longest_le (k := k) d
  have hcn := (hT.code n hn).1
  have hfn : k.follows (nodAt k.tree.ns n).cod = true := by unfold KnD.follows; rw [hcn]; rfl
  have han : k.any (nodAt k.tree.ns n).cod = d.take size := by rw [KnD.any_word hcn, hw]
  have hge : size ≤ (k.longest d).length := KnD.longest_max hk hd hfn hs2 han
  -- a code whose word has been learned has a node
  have hcode : ∀ x m, codeOk k.c k.ps.length x = true → m ≤ d.length → k.word x = d.take m → m ≤ size := fun x m hx hm he => by
    rcases Nat.lt_or_ge size m with h | h
    · obtain ⟨a1, a2, a3⟩ := hT.node x hx
      exact absurd (a3.trans he) (hnone m h hm _ a1)
    · exact h
  have hgrow : ∀ hg : k.grow = true, codeOk k.c k.ps.length k.last = true := fun hg => hk.lastOk hg
  split
  · next hA =>
    obtain ⟨b, hb1, hg, hnl, hbf⟩ := hA
    have hlast := hgrow hg
    have hsd : size < d.length := (List.getElem?_eq_some_iff.1 hb1).1
    obtain ⟨a1, a2, a3⟩ := hT.node k.last hlast
    rw [← hnl] at a3
    have hlw : k.word k.last = d.take size := by rw [← hw]; exact a3.symm
    have hbe : d[size]'hsd = b := by rw [List.getElem?_eq_getElem hsd] at hb1; exact Option.some.inj hb1
    have hfst := hT.first n hn
    have hany : k.any k.next = d.take (size + 1) := by
      unfold KnD.any
      rw [if_pos rfl, hlw, List.take_succ_eq_append_getElem hsd, hbe]
      congr 1
      have h1 : (k.word (nodAt k.tree.ns n).cod).getD 0 0 = ub (nodAt k.tree.ns n).fir := hfst
      rw [hw, ← hbf, ub_self] at h1
      cases hds : d.take size with
      | nil =>
        have := congrArg List.length hds
        rw [List.length_take, List.length_nil] at this; omega
      | cons y l =>
        rw [hds] at h1
        simp at h1
        simp [h1]
    have hfx : k.follows k.next = true := by unfold KnD.follows; rw [hg]; simp
    have hge2 : size + 1 ≤ (k.longest d).length := KnD.longest_max hk hd hfx (by omega) hany
    have hnx : k.find (k.longest d) = k.next := by
      rcases KnD.follows_cases hk hf with hc | ⟨_, he, _⟩
      · have := hcode _ (k.longest d).length hc hle (by rw [← KnD.any_word hc, ha, htk])
        omega
      · exact he
    refine ⟨hnx, ?_⟩
    rw [← ha, hnx, hany, List.length_take]; omega
  · next hA =>
    have hlen : (k.longest d).length = size := by
      rcases KnD.follows_cases hk hf with hc | ⟨hg, he, hlast⟩
      · have := hcode _ (k.longest d).length hc hle (by rw [← KnD.any_word hc, ha, htk])
        omega
      · -- the word to come
        rw [he] at ha
        have ha2 : k.word k.last ++ (k.word k.last).take 1 = k.longest d := by rw [← ha]; unfold KnD.any; rw [if_pos rfl]
        have hp : 1 ≤ (k.word k.last).length := wordP_pos hk.ps hlast
        have hL : (k.longest d).length = (k.word k.last).length + 1 := by rw [← ha2, List.length_append, List.length_take]; omega
        have hlw : k.word k.last = d.take (k.word k.last).length := by
          have h1 : k.word k.last = (k.longest d).take (k.word k.last).length := by rw [← ha2, List.take_left]
          rw [← htk, List.take_take, Nat.min_eq_left (by omega)] at h1
          exact h1
        have hls := hcode k.last _ hlast (by omega) hlw
        rcases Nat.lt_or_ge (k.word k.last).length size with h | h
        · omega
        · exfalso
          have hes : (k.word k.last).length = size := by omega
          have hsd : size < d.length := by omega
          apply hA
          obtain ⟨a1, a2, a3⟩ := hT.node k.last hlast
          have hnl : n = nodeOf k.c k.tree k.last := hT.inj n _ hn a1 (by rw [a3]; show k.word (nodAt k.tree.ns n).cod = k.word k.last; rw [hw, hlw, hes])
          refine ⟨d[size]'hsd, List.getElem?_eq_getElem hsd, hg, hnl, ?_⟩
          have hfst := hT.first n hn
          obtain ⟨-, -, f1, f2⟩ := hT.bytes n hn
          have h1 : (k.word (nodAt k.tree.ns n).cod).getD 0 0 = ub (nodAt k.tree.ns n).fir := hfst
          rw [hw, ← hes, ← hlw] at h1
          -- the last byte of the longest word is the first one
          have h2 : (k.longest d)[size]? = some (d[size]'hsd) := by
            rw [← htk, List.getElem?_take, if_pos (by omega), List.getElem?_eq_getElem hsd]
          rw [← ha2, List.getElem?_append_right (by omega), hes, Nat.sub_self] at h2
          have h3 : (k.word k.last).getD 0 0 = d[size]'hsd := by
            cases hwl : k.word k.last with
            | nil => rw [hwl] at hp; simp at hp
            | cons y l => rw [hwl] at h2; simpa using h2
          rw [h3] at h1
          have h4 := hl _ (List.getElem_mem hsd)
          rw [h1]
          exact ub_nat f1 (by omega)
    refine ⟨?_, hlen⟩
    have hL : k.longest d = d.take size := by rw [← htk, hlen]
    have h1 := KnD.find_least hk hfn (han.trans hL.symm)
    rcases KnD.follows_cases hk hf with hc | ⟨hg, he, hlast⟩
    · obtain ⟨a1, a2, a3⟩ := hT.node _ hc
      have h2 : k.word (k.find (k.longest d)) = d.take size := by rw [← KnD.any_word hc, ha, hL]
      have h3 : nodeOf k.c k.tree (k.find (k.longest d)) = n := hT.inj _ n a1 hn (by rw [a3]; exact h2.trans hw.symm)
      rw [h3] at a2
      omega
    · rw [codeOk_iff] at hcn
      rw [he] at h1 ⊢
      unfold KnD.next at *; omega
end Go.Proofs.YtekogcjdaolcbaaGreatDoor

/- The program's tree of words in memory; walks of the functions that only read it. Conditions: the tree lies in memory (TreeAt). -/
namespace Go.Proofs.YtekogcjdaolcbaaGreatDoor
open Go Go.RowKit
def nodC (ns : List NodD) (m i : Nat) : List Value :=
  [.int .i64 (nodAt ns i).par, .int .i64 (lastCh ns i m), .int .i64 (if (nodAt ns i).par < 0 then -1 else lastCh ns (nodAt ns i).par i), .int .u8 (nodAt ns i).las, .int .u8 (nodAt ns i).fir, .int .i64 (nodAt ns i).cod]
def cellsN (ns : List NodD) : List Value := (List.range ns.length).flatMap (nodC ns ns.length)
theorem flat_len {α : Type} (f : α → List Value) (k : Nat) (h : ∀ a, (f a).length = k) (l : List α) : (l.flatMap f).length = l.length * k := by
  induction l with
  | nil => simp
  | cons a l ih => rw [List.flatMap_cons, List.length_append, ih, h, List.length_cons, Nat.add_mul]; omega
theorem flat_get {α : Type} (f : α → List Value) (k : Nat) (h : ∀ a, (f a).length = k) (l : List α) (i j : Nat) (a : α) (ha : l[i]? = some a) (hj : j < k) : (l.flatMap f)[i * k + j]? = (f a)[j]? := by
  induction l generalizing i with
  | nil => simp at ha
  | cons b l ih =>
    rw [List.flatMap_cons]
    cases i with
    | zero =>
      simp at ha; subst ha
      rw [List.getElem?_append_left (by rw [h]; omega)]
      simp
    | succ i =>
      rw [List.getElem?_append_right (by rw [h, Nat.add_mul]; omega), h, ← ih i (by simpa using ha)]
      congr 1
      rw [Nat.add_mul]; omega
theorem nodC_length (ns : List NodD) (m i : Nat) : (nodC ns m i).length = 6 := rfl
theorem cellsN_length (ns : List NodD) : (cellsN ns).length = ns.length * 6 := by
  unfold cellsN; rw [flat_len _ 6 (nodC_length ns ns.length)]; simp
theorem cellsN_get (ns : List NodD) {i j : Nat} (hi : i < ns.length) (hj : j < 6) : (cellsN ns)[i * 6 + j]? = (nodC ns ns.length i)[j]? :=
  flat_get _ 6 (nodC_length ns ns.length) _ i j i (by simp [hi]) hj
def TrBox (tb : Nat) (k : KnD) (vp vn vi : Value) (w : World) : Prop := w.heap[tb]? = some (.cells #[.int .i64 k.set.ord, .int .i64 k.set.lit, .int .i64 k.set.most, vp, .int .i64 k.base, .int .i64 k.last, vn, vi] 81)
structure TreeAt (lo tb : Nat) (k : KnD) (vp vn vi : Value) (w : World) : Prop where
  box : TrBox tb k vp vn vi w
  low : lo ≤ tb
  prs : w.ownsRow lo 133 2 vp k.ps.length (cellsPr k.ps)
  nod : w.ownsRow lo 125 6 vn k.tree.ns.length (cellsN k.tree.ns)
  idx : w.ownsRow lo 3 1 vi k.tree.ix.length (cellsI (k.tree.ix.map Int.ofNat))
structure KnD.Tr (k : KnD) : Prop where
  set : setOk k.set = true
  ps : PrsOk k.c k.ps
  len : k.ps.length + k.c + 1 ≤ lastC k.set
theorem KnD.Ok.tr {k : KnD} (h : k.Ok) : k.Tr := ⟨h.set, h.ps, h.len⟩
theorem KnD.Tr.c_bd {k : KnD} (h : k.Tr) : 2 ≤ k.c ∧ k.c ≤ 256 ∧ 4 * k.c ≤ lastC k.set + 1 ∧ lastC k.set ≤ 1023 := clr_bd h.set
theorem KnD.Tr.tree {k : KnD} (h : k.Tr) : TrOk k.c k.ps k.tree := treeF_ok h.c_bd.2.1 h.ps
theorem TreeAt.up {lo tb : Nat} {k : KnD} {vp vn vi : Value} {w w' : World} (h : TreeAt lo tb k vp vn vi w) (hu : Up w w') : TreeAt lo tb k vp vn vi w' :=
  ⟨box_up hu h.box, h.low, ownsRow_up h.prs hu, ownsRow_up h.nod hu, ownsRow_up h.idx hu⟩
theorem TreeAt.lt {lo tb : Nat} {k : KnD} {vp vn vi : Value} {w : World} (h : TreeAt lo tb k vp vn vi w) : tb < w.heap.size := (Array.getElem?_eq_some_iff.1 h.box).1
theorem TreeAt.shape {lo tb : Nat} {k : KnD} {vp vn vi : Value} {w : World} (h : TreeAt lo tb k vp vn vi w) : ∃ a c, vp = .slice a k.ps.length c := by
  rcases h.prs.2 with ⟨rfl, e⟩ | ⟨g, cap, cur, rfl, _⟩
  · exact ⟨_, _, by rw [e]⟩
  · exact ⟨_, _, rfl⟩
theorem TreeAt.cells {lo tb : Nat} {k : KnD} {vp vn vi : Value} {w : World} (h : TreeAt lo tb k vp vn vi w) :
    w.cell? ⟨tb, 0, none⟩ = some (.int .i64 k.set.ord) ∧ w.cell? ⟨tb, 1, none⟩ = some (.int .i64 k.set.lit) ∧ w.cell? ⟨tb, 2, none⟩ = some (.int .i64 k.set.most) ∧ w.cell? ⟨tb, 3, none⟩ = some vp ∧ w.cell? ⟨tb, 4, none⟩ = some (.int .i64 k.base) ∧ w.cell? ⟨tb, 5, none⟩ = some (.int .i64 k.last) ∧ w.cell? ⟨tb, 6, none⟩ = some vn ∧ w.cell? ⟨tb, 7, none⟩ = some vi :=
  ⟨box_cell h.box 0, box_cell h.box 1, box_cell h.box 2, box_cell h.box 3, box_cell h.box 4, box_cell h.box 5, box_cell h.box 6, box_cell h.box 7⟩
theorem TreeAt.nodes {lo tb : Nat} {k : KnD} {vp vn vi : Value} {w : World} (h : TreeAt lo tb k vp vn vi w) (hk : k.Tr) : ∃ g cap, vn = .slice (some ⟨g, 0, none⟩) k.tree.ns.length cap ∧ k.tree.ns.length ≤ cap ∧ cap ≤ maxLen ∧ lo ≤ g ∧ g < w.heap.size ∧ g ≠ tb ∧
    ∀ i, i < k.tree.ns.length → w.cell? ⟨g, i * 6, none⟩ = some (.int .i64 (nodAt k.tree.ns i).par) ∧ w.cell? ⟨g, i * 6 + 1, none⟩ = some (.int .i64 (lastCh k.tree.ns i k.tree.ns.length)) ∧ w.cell? ⟨g, i * 6 + 2, none⟩ = some (.int .i64 (if (nodAt k.tree.ns i).par < 0 then -1 else lastCh k.tree.ns (nodAt k.tree.ns i).par i)) ∧
      w.cell? ⟨g, i * 6 + 3, none⟩ = some (.int .u8 (nodAt k.tree.ns i).las) ∧ w.cell? ⟨g, i * 6 + 4, none⟩ = some (.int .u8 (nodAt k.tree.ns i).fir) ∧ w.cell? ⟨g, i * 6 + 5, none⟩ = some (.int .i64 (nodAt k.tree.ns i).cod) := by
  have hlo := hk.tree.lo
  have hc := hk.c_bd
  rcases ownsRow_read h.nod with ⟨_, h2⟩ | ⟨g, cap, rfl, h1, h2, h3, h4, h5⟩
  · omega
  · refine ⟨g, cap, rfl, h1, h2, h3, h4, fun e => box_ne h.box h.nod (by decide) (by rw [e]; rfl), fun i hi => ?_⟩
    have c0 := cellsN_get k.tree.ns hi (j := 0) (by omega)
    exact ⟨h5 _ _ (by have := cellsN_get k.tree.ns hi (j := 0) (by omega); rw [Nat.add_zero] at this; exact this), h5 _ _ (cellsN_get _ hi (j := 1) (by omega)), h5 _ _ (cellsN_get _ hi (j := 2) (by omega)), h5 _ _ (cellsN_get _ hi (j := 3) (by omega)), h5 _ _ (cellsN_get _ hi (j := 4) (by omega)), h5 _ _ (cellsN_get _ hi (j := 5) (by omega))⟩
theorem TreeAt.index {lo tb : Nat} {k : KnD} {vp vn vi : Value} {w : World} (h : TreeAt lo tb k vp vn vi w) : ∃ a cap, vi = .slice a k.ps.length cap ∧ k.ps.length ≤ maxLen ∧ (0 < k.ps.length → ∃ g, a = some ⟨g, 0, none⟩ ∧ k.ps.length ≤ cap ∧ cap ≤ maxLen ∧ lo ≤ g ∧ g < w.heap.size ∧ g ≠ tb ∧
    ∀ i, i < k.ps.length → w.cell? ⟨g, i, none⟩ = some (.int .i64 (k.tree.ix.getD i 0 : Nat))) := by
  have hl : k.tree.ix.length = k.ps.length := treeF_ixl _ _
  obtain ⟨a, cap, e, h1, h2⟩ := ownsRow_any h.idx
  rw [hl] at e h1 h2
  refine ⟨a, cap, e, h1, fun hp => ?_⟩
  obtain ⟨g, rfl, h3, h4, h5, h6, h7⟩ := h2 hp
  refine ⟨g, rfl, h3, h4, h5, h6, fun eg => box_ne h.box h.idx (by decide) (by rw [e, eg]; rfl), fun i hi => ?_⟩
  refine h7 i _ ?_
  have : i < k.tree.ix.length := by omega
  simp [cellsI, this]
set_option maxRecDepth 100000 in
set_option maxHeartbeats 1000000 in
theorem nodeOf_any (lo tb : Nat) (k : KnD) (vp vn vi : Value) (x : Int) (w : World) (h : TreeAt lo tb k vp vn vi w) (hk : k.Tr) (hx : codeOk k.c k.ps.length x = true) :
    Calls Tryz.prog 93  #[.pointer (some ⟨tb, 0, none⟩), .int .i64 x] w (Same (.int .i64 (nodeOf k.c k.tree x : Nat)) w) := by
  have cE := fun w => endI_any k.set w hk.set
  obtain ⟨c0, c1, c2, c3, c4, c5, c6, c7⟩ := h.cells
  have hfr := box_free h.box
  have htb := h.lt
  obtain ⟨a, cap, rfl, hm, hsome⟩ := h.index
  obtain ⟨hb1, hb2, hb3⟩ := clr_le hk.set
  have ec : k.c = clr k.set := rfl
  have hlen := hk.len
  have hcx := codeOk_iff.1 hx
  unfold nodeOf
  rw [ec] at *
  by_cases hxc : x < clr k.set
  · rw [if_pos hxc]
    have h0 : 0 ≤ x := by omega
    have e : ((x.toNat : Nat) : Int) = x := by omega
    rw [e]
    clear hsome
    go_enter Tryz.func93, Tryz.ntmps93
    go_wp2_with ((go_at_call 58; (with_reducible refine (cE _).mono ?_); rintro e w1 ⟨rfl, U1⟩; have B1 := bcell U1; have Z1 := U1.size; (try simp at Z1); (try rw [Nat.add_one_le_iff] at Z1)))
    go_ret
    exact ⟨rfl, by (repeat (first | with_reducible exact Up.refl _ | with_reducible assumption | with_reducible refine Up.set ?_ (by first | exact Nat.le_refl _ | (simp only []; omega) | (simp; omega)) _ | with_reducible refine Up.alloc ?_ _ | with_reducible refine Up.drew ?_ | refine Up.trans ?_ (by with_reducible assumption)))⟩
  · rw [if_neg hxc]
    obtain ⟨i, rfl⟩ : ∃ i : Nat, x = (clr k.set : Int) + 2 + i := ⟨(x - clr k.set - 2).toNat, by omega⟩
    have hi : i < k.ps.length := by omega
    obtain ⟨g, rfl, h1, h2, h3, h4, h5, h6⟩ := hsome (by omega)
    have d0 := h6 i hi
    have e : ((clr k.set : Int) + 2 + i).toNat - (clr k.set + 2) = i := by omega
    rw [e]
    clear hsome h6 hcx hx
    generalize k.tree.ix.getD i 0 = r at *
    generalize clr k.set = c at *
    unfold maxLen at h2
    have e1 : ((c : Int) + 2 + i - (c + 1) - 1) = i := by omega
    go_enter Tryz.func93, Tryz.ntmps93
    go_wp2_with ((go_at_call 58; (with_reducible refine (cE _).mono ?_); rintro e w1 ⟨rfl, U1⟩; have B1 := bcell U1; have Z1 := U1.size; (try simp at Z1); (try rw [Nat.add_one_le_iff] at Z1)); have d1 := (U1.cell (p := ⟨g, i, none⟩) h4).trans d0)
    go_ret
    exact ⟨rfl, by (repeat (first | with_reducible exact Up.refl _ | with_reducible assumption | with_reducible refine Up.set ?_ (by first | exact Nat.le_refl _ | (simp only []; omega) | (simp; omega)) _ | with_reducible refine Up.alloc ?_ _ | with_reducible refine Up.drew ?_ | refine Up.trans ?_ (by with_reducible assumption)))⟩
def RelCh (ns : List NodD) (p : Nat) (b : Int) (w : World) (n : Value) (wr : World) : Prop := ∃ m : Nat, m ≤ ns.length ∧ n = .int .i64 (lastCh ns p m) ∧ findCh ns p b m = findCh ns p b ns.length ∧ w = wr
set_option maxRecDepth 100000 in
set_option maxHeartbeats 1000000 in
theorem child_any (lo tb : Nat) (k : KnD) (vp vn vi : Value) (p : Nat) (b : Int) (w : World) (h : TreeAt lo tb k vp vn vi w) (hk : k.Tr) (hp : p < k.tree.ns.length) :
    Calls Tryz.prog 91  #[.pointer (some ⟨tb, 0, none⟩), .int .i64 p, .int .u8 b] w (fun e w' => e = .returned (.int .i64 (findCh k.tree.ns p b k.tree.ns.length)) ∧ w = w') := by
  obtain ⟨c0, c1, c2, c3, c4, c5, c6, c7⟩ := h.cells
  have hfr := box_free h.box
  have htb := h.lt
  obtain ⟨g, cap, rfl, h1, h2, h3, h4, h5, h6⟩ := h.nodes hk
  obtain ⟨hb1, hb2, hb3⟩ := clr_le hk.set
  have hhi := hk.tree.hi
  have hlen := hk.len
  have hns : k.tree.ns.length ≤ 2000 := by unfold KnD.c at *; omega
  clear hhi hlen hk h
  unfold maxLen at h2
  generalize k.tree.ns = ns at *
  have hp0 := (h6 p hp).2.1
  go_enter Tryz.func91, Tryz.ntmps91
  go_wp2
  go_loopw [7] (fun n wr => RelCh ns p b w n wr) (fun n _ => (intOf n + 1).toNat)
  case atStart => exact ⟨ns.length, Nat.le_refl _, rfl, rfl, rfl⟩
  case round =>
    obtain ⟨m, hm, rfl, hf, rfl⟩ := hrel
    have HF := Lib.hid hf
    clear hf
    rcases lastCh_cases ns p m with ⟨hl, -⟩ | ⟨j, hj, hl, hpj, -⟩
    · have HE := Lib.hid (find_none_last hl b)
      rw [hl]
      go_wp2
      go_ret
      exact ⟨ret_int (by rw [← HF.out, HE.out]), rfl⟩
    · have HL := Lib.hid (find_last hl b)
      obtain ⟨d0, d1, d2, d3, d4, d5⟩ := h6 j (by omega)
      have hjn : j < ns.length := by omega
      have hpn : ¬ (nodAt ns j).par < 0 := by omega
      rw [if_neg hpn, hpj] at d2
      rw [hl]
      by_cases hb : (nodAt ns j).las = b
      · rw [hb] at d3
        go_wp2
        go_ret
        exact ⟨ret_int (by rw [← HF.out, HL.out, if_pos hb]), rfl⟩
      · have hbd := lastCh_bd ns p j
        have HB := Lib.hid hb
        go_wp2
        go_roundw
        case rel => exact ⟨j, by omega, rfl, by rw [← HF.out, HL.out, if_neg hb], rfl⟩
        case measure => simp [intOf]; omega
end Go.Proofs.YtekogcjdaolcbaaGreatDoor

/- What the functions that write the tree of words leave; the nodes' row behind a new node; an append's block. Conditions: as each says. -/
namespace Go.Proofs.YtekogcjdaolcbaaGreatDoor
open Go Go.RowKit
structure Fr (O : Nat → Prop) (w w' : World) : Prop where
  os : w'.os = w.os
  tape : w'.tape = w.tape
  output : w'.output = w.output
  size : w.heap.size ≤ w'.heap.size
  block : ∀ b, b < w.heap.size → ¬ O b → w'.heap[b]? = w.heap[b]?
theorem Fr.refl (O : Nat → Prop) (w : World) : Fr O w w := ⟨rfl, rfl, rfl, Nat.le_refl _, fun _ _ _ => rfl⟩
theorem Fr.trans {O O' : Nat → Prop} {a b c : World} (h : Fr O a b) (k : Fr O' b c) (hO : ∀ x, O' x → O x ∨ a.heap.size ≤ x) : Fr O a c :=
  ⟨k.os.trans h.os, k.tape.trans h.tape, k.output.trans h.output, Nat.le_trans h.size k.size, fun x hx hn => (k.block x (Nat.lt_of_lt_of_le hx h.size) (fun e => by
    rcases hO x e with h1 | h1
    · exact hn h1
    · omega)).trans (h.block x hx hn)⟩
theorem Fr.of {w w' : World} (O : Nat → Prop) (h : Up w w') : Fr O w w' := ⟨h.os, h.tape, h.output, h.size, fun b hb _ => h.block b hb⟩
theorem Fr.up {O : Nat → Prop} {a w w' : World} (h : Fr O a w) (hu : Up w w') : Fr O a w' := h.trans (Fr.of (fun _ => False) hu) (fun _ h => h.elim)
theorem Fr.gr {O : Nat → Prop} {a w w' : World} {row : Option Nat} (h : Fr O a w) (hg : w.grownBy w' row) (hr : ∀ b, row = some b → O b ∨ a.heap.size ≤ b) : Fr O a w' :=
  h.trans (O' := fun b => row = some b) ⟨hg.os, hg.tape, hg.output, hg.size, fun b hb hn => hg.block b hb (fun e => hn e.symm)⟩ hr
theorem Fr.set {O : Nat → Prop} {a w : World} (h : Fr O a w) {p : Addr} (hp : O p.block ∨ a.heap.size ≤ p.block) (u : Value) : Fr O a (w.setCell p u) :=
  h.trans (O' := fun b => p.block = b) ⟨rfl, rfl, rfl, by simp [World.setCell], fun b hb hn => Below.heap_setCell _ _ _ _ (Ne.symm hn)⟩ (fun b e => by subst e; exact hp)
theorem Fr.alloc {O : Nat → Prop} {a w : World} (h : Fr O a w) (o : Obj) : Fr O a (w.alloc o) := h.up ((Up.refl w).alloc o)
theorem Fr.drew {O : Nat → Prop} {a w : World} (h : Fr O a w) : Fr O a w.drew := h.up ((Up.refl w).drew)
theorem Fr.upto {O : Nat → Prop} {a w w' : World} (h : Up a w) (k : Fr O w w') (hO : ∀ b, O b → a.heap.size ≤ b) : Up a w' :=
  ⟨k.os.trans h.os, k.tape.trans h.tape, k.output.trans h.output, Nat.le_trans h.size k.size, fun b hb => (k.block b (Nat.lt_of_lt_of_le hb h.size) (fun e => by have := hO b e; omega)).trans (h.block b hb)⟩
theorem Fr.box {O : Nat → Prop} {w w' : World} (h : Fr O w w') {b : Nat} {o : Obj} (hb : w.heap[b]? = some o) (hn : ¬ O b) : w'.heap[b]? = some o := (h.block b (Array.getElem?_eq_some_iff.1 hb).1 hn).trans hb
theorem Fr.row {O : Nat → Prop} {w w' : World} (h : Fr O w w') {base : Nat} {e : TypeId} {size n : Nat} {v : Value} {xs : List Value} (hr : w.ownsRow base e size v n xs) (hn : ∀ b, v.ownBlock = some b → ¬ O b) : w'.ownsRow base e size v n xs := by
  refine ⟨hr.1, ?_⟩
  rcases hr.2 with h1 | ⟨g, cap, cur, rfl, hb, hg, rest⟩
  · exact .inl h1
  · exact .inr ⟨g, cap, cur, rfl, hb, h.box hg (hn g rfl), rest⟩
def NewOr (N : Nat) (v v' : Value) : Prop := ∀ b, v'.ownBlock = some b → v.ownBlock = some b ∨ N ≤ b
section
variable {P : Program}
theorem run_append_fresh (base : Nat) (t ty e : TypeId) (i : TypeInfo) (z : Value) (size bytes : Nat) (ht : P.underlying t = some (.slice e)) (hi : P.info? e = some i) (hz : i.zero = some z)
    (hsize : i.size = size) (hby : i.bytes = bytes) (hzs : z.cells.size = size) (hsz : 0 < size)
    (w : World) (v : Value) (n : Nat) (xs : List Value) (hown : w.ownsRow base e size v n xs)
    (ad : Addr) (m c : Nat) (news : List Value) (hl : news.length = m * size) (hnews : ∀ j u, news[j]? = some u → w.cell? (ad.add j) = some u) (h1 : ∀ u ∈ news, u.oneCell' = true)
    (h63 : n + m ≤ maxLen) (hbytes : (n + m) * bytes ≤ 140737488355328) {v' : Value} {w' : World} (hr : (Builtin.append_ #[t, t] ty #[v, .slice (some ad) m c]).run P w = .ok v' w') : NewOr w.heap.size v v' := by
  subst hsize hby
  rcases hown.2 with ⟨rfl, rfl⟩ | ⟨g, cap, cur, rfl, hbg, hg, hnc, hcm, hcs, htake⟩
  · have hx : xs = [] := List.eq_nil_of_length_eq_zero (by simpa using hown.1)
    subst hx
    obtain ⟨v2, w2, hr2, h2, -, -⟩ := run_append_own (P := P) w w.heap.size t ty e i z i.size i.bytes ht hi hz rfl rfl hzs hsz (.slice none 0 0) 0 [] (World.ownsRow_nil _ _ _ _) ad m c news hl hnews h1 h63 hbytes (Nat.le_refl _)
    rw [hr] at hr2
    simp only [Result.ok.injEq] at hr2
    obtain ⟨rfl, rfl⟩ := hr2
    exact fun b hb => .inr (h2.lt b hb).1
  · by_cases hroom : n + m ≤ cap
    · have hfit : n * i.size + news.length ≤ cur.size := by rw [hl, hcs, ← Nat.add_mul]; exact Nat.mul_le_mul_right _ hroom
      have hr2 := run_append_room (P := P) w t ty e i ht hi g n cap cur hg ad m c news hl hnews h1 hroom hfit
      rw [hr] at hr2
      simp only [Result.ok.injEq] at hr2
      obtain ⟨rfl, -⟩ := hr2
      exact fun b hb => .inl hb
    · have hr2 := run_append_grow (P := P) w t ty e i z ht hi hz ⟨g, 0, none⟩ n cap xs hown.1 (hown.cells (g := g) rfl) ad m c news hl hnews (by omega) (by unfold maxLen at h63; omega) (growslice_fits (by omega) hbytes)
      rw [hr] at hr2
      simp only [Result.ok.injEq] at hr2
      obtain ⟨rfl, -⟩ := hr2
      intro b hb
      simp only [Value.ownBlock, Option.some.injEq] at hb
      exact .inr (by omega)
theorem gAt_append2 {o : Oper} {a : Act} {w : World} (s x : Operand) (t : TypeId)
    (ho : o.op = .call { callee := .builtin .append, args := #[s, x], argTypes := #[t, t] })
    (base : Nat) (e : TypeId) (i : TypeInfo) (z : Value) (size bytes : Nat) (ht : P.underlying t = some (.slice e)) (hi : P.info? e = some i) (hz : i.zero = some z)
    (hsize : i.size = size) (hby : i.bytes = bytes) (hzs : z.cells.size = size) (hsz : 0 < size)
    (v : Value) (n : Nat) (xs : List Value) (hs : a.eval s = v) (hown : w.ownsRow base e size v n xs)
    (ad : Addr) (m c : Nat) (news : List Value) (hx : a.eval x = .slice (some ad) m c) (hl : news.length = m * size) (hnews : ∀ j u, news[j]? = some u → w.cell? (ad.add j) = some u) (h1 : ∀ u ∈ news, u.oneCell' = true)
    (h63 : n + m ≤ maxLen) (hbytes : (n + m) * bytes ≤ 140737488355328) (hbase : base ≤ w.heap.size) (N : Nat) (hN : N ≤ w.heap.size)
    (row : Option Nat) (hrow : v.ownBlock = row) : gAt P (fun w w' => w.grownBy w' row) o a w (fun v' w' => w'.ownsRow base e size v' (n + m) (xs ++ news) ∧ NewOr N v v') := by
  obtain ⟨v', w', hr, h2, h3, h4⟩ := run_append_own (P := P) w base t o.type e i z size bytes ht hi hz hsize hby hzs hsz v n xs hown ad m c news hl hnews h1 h63 hbytes hbase
  have h5 := run_append_fresh (P := P) base t o.type e i z size bytes ht hi hz hsize hby hzs hsz w v n xs hown ad m c news hl hnews h1 h63 hbytes hr
  unfold gAt execOp
  simp only [ho, resolve, invoke, builtin, Sem.run_bind, Sem.run_pure, Result.andThen_ok, List.map_toArray, List.map_cons, List.map_nil, hs, hx, hr]
  exact ⟨hrow ▸ h3, h2, fun b hb => (h5 b hb).imp id (fun h => Nat.le_trans hN h)⟩
theorem wpList_append2 {ops : Array Oper} {rest : List Oper} {o : Oper} {a : Act} {w : World} {Q : Exit → Act → World → Prop} (hgd : o.guard = none) (s x : Operand) (t : TypeId)
    (ho : o.op = .call { callee := .builtin .append, args := #[s, x], argTypes := #[t, t] })
    (base : Nat) (e : TypeId) (i : TypeInfo) (z : Value) (size bytes : Nat) (ht : P.underlying t = some (.slice e)) (hi : P.info? e = some i) (hz : i.zero = some z)
    (hsize : i.size = size) (hby : i.bytes = bytes) (hzs : z.cells.size = size) (hsz : 0 < size)
    (v : Value) (n : Nat) (xs : List Value) (hs : a.eval s = v) (hown : w.ownsRow base e size v n xs)
    (ad : Addr) (m c : Nat) (news : List Value) (hx : a.eval x = .slice (some ad) m c) (hl : news.length = m * size) (hnews : ∀ j u, news[j]? = some u → w.cell? (ad.add j) = some u) (h1 : ∀ u ∈ news, u.oneCell' = true)
    (h63 : n + m ≤ maxLen) (hbytes : (n + m) * bytes ≤ 140737488355328) (hbase : base ≤ w.heap.size)
    (h : ∀ v' w', w'.ownsRow base e size v' (n + m) (xs ++ news) → w.grownBy w' v.ownBlock → NewOr w.heap.size v v' → wpList P ops Q rest (a.put o.dst v') w') : wpList P ops Q (o :: rest) a w :=
  wpList_plain hgd fun _ hK => by
    obtain ⟨v', w', hr, h2, h3, h4⟩ := run_append_own (P := P) w base t o.type e i z size bytes ht hi hz hsize hby hzs hsz v n xs hown ad m c news hl hnews h1 h63 hbytes hbase
    have h5 := run_append_fresh (P := P) base t o.type e i z size bytes ht hi hz hsize hby hzs hsz w v n xs hown ad m c news hl hnews h1 h63 hbytes hr
    unfold Oper.wp execOp
    simp only [ho, resolve, invoke, builtin, Sem.run_bind, Sem.run_pure, Result.andThen_ok, List.map_toArray, List.map_cons, List.map_nil, hs, hx, hr]
    exact hK _ _ (h v' w' h2 h3 h5)
end
theorem cellsN_at (ns : List NodD) {q : Nat} (h : q < ns.length * 6) : (cellsN ns)[q]? = (nodC ns ns.length (q / 6))[q % 6]? := by
  have := cellsN_get ns (i := q / 6) (j := q % 6) (by omega) (by omega)
  rwa [show q / 6 * 6 + q % 6 = q by omega] at this
def newC (ns : List NodD) (X : NodD) (p : Nat) : List Value := [.int .i64 X.par, .int .i64 (-1), .int .i64 (lastCh ns p ns.length), .int .u8 X.las, .int .u8 X.fir, .int .i64 X.cod]
theorem cellsN_snoc {ns : List NodD} {X : NodD} {p : Nat} (hp : X.par = p) (hlt : p < ns.length) (hpar : ∀ i, i < ns.length → (nodAt ns i).par < (ns.length : Int)) :
    (cellsN ns ++ newC ns X p).set (p * 6 + 1) (.int .i64 ns.length) = cellsN (ns ++ [X]) := by
  have hl : (ns ++ [X]).length = ns.length + 1 := by simp
  have hL1 := cellsN_length ns
  have hL2 := cellsN_length (ns ++ [X])
  rw [hl] at hL2
  apply List.ext_getElem?
  intro q
  rw [List.getElem?_set]
  by_cases hq : q < ns.length * 6
  · have hi : q / 6 < ns.length := by omega
    rw [cellsN_at (ns ++ [X]) (by rw [hl]; omega), hl]
    have hn : nodAt (ns ++ [X]) (q / 6) = nodAt ns (q / 6) := nodAt_app ns X hi
    have hA : lastCh (ns ++ [X]) (nodAt ns (q / 6)).par (q / 6) = lastCh ns (nodAt ns (q / 6)).par (q / 6) := lastCh_app ns X _ _ (by omega)
    have hB : lastCh (ns ++ [X]) ((q / 6 : Nat) : Int) (ns.length + 1) = if p = q / 6 then (ns.length : Int) else lastCh ns ((q / 6 : Nat) : Int) ns.length := by
      rw [lastCh_new, hp]
      by_cases h : p = q / 6
      · rw [if_pos h, if_pos (by rw [h])]
      · rw [if_neg h, if_neg (by omega)]
    by_cases hc : p * 6 + 1 = q
    · rw [if_pos hc, if_pos (by rw [List.length_append, hL1]; simp [newC]; omega)]
      have e1 : q / 6 = p := by omega
      have e2 : q % 6 = 1 := by omega
      rw [e1] at hB
      simp only [e2, e1, nodC, hB, if_true, List.getElem?_cons_succ, List.getElem?_cons_zero]
    · rw [if_neg hc, List.getElem?_append_left (by rw [hL1]; exact hq), cellsN_at ns hq]
      unfold nodC
      rw [hn, hA, hB]
      rcases (by omega : q % 6 = 0 ∨ q % 6 = 1 ∨ q % 6 = 2 ∨ q % 6 = 3 ∨ q % 6 = 4 ∨ q % 6 = 5) with e | e | e | e | e | e
      · rw [e]; rfl
      · have : ¬ p = q / 6 := by omega
        rw [e, if_neg this]
      · rw [e]; rfl
      · rw [e]; rfl
      · rw [e]; rfl
      · rw [e]; rfl
  · rw [if_neg (by omega)]
    by_cases hq2 : q < (ns.length + 1) * 6
    · rw [List.getElem?_append_right (by rw [hL1]; omega), hL1, cellsN_at (ns ++ [X]) (by rw [hl]; exact hq2), hl]
      have e1 : q / 6 = ns.length := by omega
      have hB : lastCh (ns ++ [X]) (ns.length : Int) (ns.length + 1) = -1 := by
        rw [lastCh_new, if_neg (by omega)]
        rcases lastCh_cases ns (ns.length : Int) ns.length with ⟨h, _⟩ | ⟨j, h1, _, h3, _⟩
        · exact h
        · have := hpar j h1; omega
      have hA : lastCh (ns ++ [X]) X.par ns.length = lastCh ns p ns.length := by rw [hp]; exact lastCh_app ns X _ _ (Nat.le_refl _)
      unfold nodC
      rw [e1, nodAt_new, hA, hB, if_neg (by omega)]
      rw [show q % 6 = q - ns.length * 6 by omega]
      rfl
    · rw [List.getElem?_eq_none (by rw [List.length_append, hL1]; simp [newC]; omega), List.getElem?_eq_none (by rw [hL2]; omega)]
theorem newC_one (ns : List NodD) (X : NodD) (p : Nat) : ∀ u ∈ newC ns X p, u.oneCell' = true := by
  intro u hu
  simp only [newC, List.mem_cons, List.not_mem_nil, or_false] at hu
  rcases hu with rfl | rfl | rfl | rfl | rfl | rfl <;> rfl
theorem TrBox.cells {tb : Nat} {k : KnD} {vp vn vi : Value} {w : World} (h : TrBox tb k vp vn vi w) :
    w.cell? ⟨tb, 0, none⟩ = some (.int .i64 k.set.ord) ∧ w.cell? ⟨tb, 1, none⟩ = some (.int .i64 k.set.lit) ∧ w.cell? ⟨tb, 2, none⟩ = some (.int .i64 k.set.most) ∧ w.cell? ⟨tb, 3, none⟩ = some vp ∧ w.cell? ⟨tb, 4, none⟩ = some (.int .i64 k.base) ∧ w.cell? ⟨tb, 5, none⟩ = some (.int .i64 k.last) ∧ w.cell? ⟨tb, 6, none⟩ = some vn ∧ w.cell? ⟨tb, 7, none⟩ = some vi :=
  ⟨box_cell h 0, box_cell h 1, box_cell h 2, box_cell h 3, box_cell h 4, box_cell h 5, box_cell h 6, box_cell h 7⟩
theorem row_ne {w : World} {b1 b2 : Nat} {e1 e2 : TypeId} {s1 s2 n1 n2 n g cap : Nat} {v1 : Value} {x1 x2 : List Value} (h1 : w.ownsRow b1 e1 s1 v1 n1 x1) (h2 : w.ownsRow b2 e2 s2 (.slice (some ⟨g, 0, none⟩) n cap) n2 x2) (hne : e1 ≠ e2) : some g ≠ v1.ownBlock := by
  rcases ownsRow_ne h1 h2 hne with h | h
  · rw [h]; exact fun e => by cases e
  · exact fun e => h e.symm
theorem TreeAt.node1 {lo tb : Nat} {k : KnD} {vp vn vi : Value} {w : World} (h : TreeAt lo tb k vp vn vi w) (hk : k.Tr) {i : Nat} (hi : i < k.tree.ns.length) : ∃ g cap nx, vn = .slice (some ⟨g, 0, none⟩) k.tree.ns.length cap ∧ k.tree.ns.length ≤ cap ∧ cap ≤ maxLen ∧ lo ≤ g ∧ g < w.heap.size ∧ g ≠ tb ∧
    w.cell? ⟨g, i * 6, none⟩ = some (.int .i64 (nodAt k.tree.ns i).par) ∧ w.cell? ⟨g, i * 6 + 1, none⟩ = some (.int .i64 (lastCh k.tree.ns i k.tree.ns.length)) ∧ w.cell? ⟨g, i * 6 + 2, none⟩ = some (.int .i64 nx) ∧
      w.cell? ⟨g, i * 6 + 3, none⟩ = some (.int .u8 (nodAt k.tree.ns i).las) ∧ w.cell? ⟨g, i * 6 + 4, none⟩ = some (.int .u8 (nodAt k.tree.ns i).fir) ∧ w.cell? ⟨g, i * 6 + 5, none⟩ = some (.int .i64 (nodAt k.tree.ns i).cod) := by
  obtain ⟨g, cap, e, h1, h2, h3, h4, h5, h6⟩ := h.nodes hk
  exact ⟨g, cap, _, e, h1, h2, h3, h4, h5, h6 i hi⟩
def Own (tb : Nat) (vp vn vi : Value) (b : Nat) : Prop := b = tb ∨ vp.ownBlock = some b ∨ vn.ownBlock = some b ∨ vi.ownBlock = some b
theorem TreeAt.own_lo {lo tb : Nat} {k : KnD} {vp vn vi : Value} {w : World} (h : TreeAt lo tb k vp vn vi w) : ∀ b, Own tb vp vn vi b → lo ≤ b ∧ b < w.heap.size := by
  intro b hb
  rcases hb with rfl | hb | hb | hb
  · exact ⟨h.low, h.lt⟩
  · exact h.prs.lt b hb
  · exact h.nod.lt b hb
  · exact h.idx.lt b hb
theorem TreeAt.fr {O : Nat → Prop} {lo tb : Nat} {k : KnD} {vp vn vi : Value} {w w' : World} (h : TreeAt lo tb k vp vn vi w) (hf : Fr O w w') (hn : ∀ b, Own tb vp vn vi b → ¬ O b) : TreeAt lo tb k vp vn vi w' :=
  ⟨hf.box h.box (hn tb (.inl rfl)), h.low, hf.row h.prs (fun b hb => hn b (.inr (.inl hb))), hf.row h.nod (fun b hb => hn b (.inr (.inr (.inl hb)))), hf.row h.idx (fun b hb => hn b (.inr (.inr (.inr hb))))⟩
def TrPost (lo tb : Nat) (k : KnD) (vp vn vi : Value) (w w' : World) : Prop := ∃ vp' vn' vi', TreeAt lo tb k vp' vn' vi' w' ∧ Fr (Own tb vp vn vi) w w' ∧ ∀ b, Own tb vp' vn' vi' b → Own tb vp vn vi b ∨ w.heap.size ≤ b
end Go.Proofs.YtekogcjdaolcbaaGreatDoor

/- Appends outside a region: pairs onto nil, a string onto a row of bytes. Conditions: as each says. -/
namespace Go.Proofs.YtekogcjdaolcbaaGreatDoor
open Go Go.RowKit
theorem run_copy_nil {lo : Nat} {w : World} {vx : Value} {ps : List PairD} (ty : TypeId) (hr : RdP lo w vx ps) (hl : ps.length ≤ 1048576) :
    ∃ v' w', (Builtin.append_ #[25, 25] ty #[.slice none 0 0, vx]).run Tryz.prog w = .ok v' w' ∧ ownPr w' w.heap.size v' ps ∧ Up w w' := by
  obtain ⟨i0, hi, hz0, hz1, hz2⟩ := info_parts infoPair
  obtain ⟨ad, cap, rfl, hc1, hc2, hc3, hsome⟩ := hr
  have hn : w.ownsRow w.heap.size 133 2 (.slice none 0 0) 0 [] := World.ownsRow_nil _ _ _ _
  cases ad with
  | none =>
    obtain ⟨h1, h2⟩ := hc3 rfl
    have hps : ps = [] := List.length_eq_zero_iff.1 h1
    subst hps
    have hrun := run_append_owned_none (P := Tryz.prog) (w := w) w.heap.size 25 ty 133 i0 2 Tryz.underlying25 hi _ 0 [] hn
    rw [h2]
    exact ⟨_, _, hrun, hn, Up.refl _⟩
  | some ad =>
    have hnews : ∀ j u, (cellsPr ps)[j]? = some u → w.cell? (ad.add j) = some u := by
      intro j u hj
      by_cases hp : 0 < ps.length
      · obtain ⟨b, off, e1, e2, e3, e4⟩ := hsome hp
        cases e1
        exact RdP.news (lo := lo) (n := 0) (cap := 0) e4 j u hj
      · have hps : ps = [] := List.length_eq_zero_iff.1 (by omega)
        subst hps
        simp [cellsPr] at hj
    obtain ⟨v', w', hr, h2, h3, h4⟩ := run_append_own (P := Tryz.prog) w w.heap.size 25 ty 133 i0 (.agg #[.int .i64 0, .int .i64 0]) 2 16 Tryz.underlying25 hi hz0 hz1 hz2 rfl (by decide) _ 0 [] hn ad ps.length cap (cellsPr ps) (cellsPr_length ps) hnews (cellsPr_one ps) (by unfold maxLen; omega) (by omega) (Nat.le_refl _)
    rw [Nat.zero_add, List.nil_append] at h2
    exact ⟨v', w', hr, h2, Up.grown (Up.refl _) h3 (fun y hy => by cases hy)⟩
theorem wpList_copy {ops : Array Oper} {rest : List Oper} {o : Oper} {a : Act} {w : World} {Q : Exit → Act → World → Prop} (hgd : o.guard = none) (s x : Operand)
    (ho : o.op = .call { callee := .builtin .append, args := #[s, x], argTypes := #[25, 25] }) (hs : a.eval s = .slice none 0 0) {lo : Nat} {vx : Value} {ps : List PairD} (hx : a.eval x = vx) (hr : RdP lo w vx ps) (hl : ps.length ≤ 1048576)
    (h : ∀ v' w', ownPr w' w.heap.size v' ps → Up w w' → wpList Tryz.prog ops Q rest (a.put o.dst v') w') : wpList Tryz.prog ops Q (o :: rest) a w :=
  wpList_plain hgd fun _ hK => by
    obtain ⟨v', w', hr, h2, h3⟩ := run_copy_nil o.type hr hl
    unfold Oper.wp execOp
    simp only [ho, resolve, invoke, builtin, Sem.run_bind, Sem.run_pure, Result.andThen_ok, List.map_toArray, List.map_cons, List.map_nil, hs, hx, hr]
    exact hK _ _ (h v' w' h2 h3)
end Go.Proofs.YtekogcjdaolcbaaGreatDoor

