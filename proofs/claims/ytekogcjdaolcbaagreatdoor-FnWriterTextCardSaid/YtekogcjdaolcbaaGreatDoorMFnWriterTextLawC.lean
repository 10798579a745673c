/- Texts joined into one: the walks and laws that the last text leans on. Conditions: as each says. -/
import Derived.Test.YtekogcjdaolcbaaGreatDoorMFnWriterTextLawB
import Derived.Test.YtekogcjdaolcbaaGreatDoorIn
import Derived.Lib.AppendStr
import Derived.Test.YtekogcjdaolcbaaGreatDoorMFnWriterTextLawA
import Derived.Test.YtekogcjdaolcbaaGreatDoorSets
import Derived.Test.YtekogcjdaolcbaaGreatDoorWord

set_option linter.unusedVariables false
set_option linter.unusedSimpArgs false
/- Walk of the reference's l2Walk. Conditions: what is known is valid (KnD.Ok) and can be read; the codes can be read. -/
namespace Go.Proofs.YtekogcjdaolcbaaGreatDoor
open Go Go.RowKit
theorem conv_any {w : World} {base : Nat} {a : Option Addr} {n c : Nat} {l : List UInt8} (h : w.ownsRow base 5 1 (.slice a n c) n (cellsU l)) (hn : n = l.length) : (convert 22 9 (.slice a n c)).run Tryz.prog w = .ok (.string (bs l)) w := by
  rcases h.2 with ⟨h1, h2⟩ | ⟨g, cap, cur, h1, _⟩
  · cases h1
    have hl : l = [] := List.length_eq_zero_iff.1 hn.symm
    subst hl
    exact run_convert_bytes_nil (P := Tryz.prog) w 22 5 Tryz.underlying22 Tryz.underlying5 0 0 9 Tryz.underlying9
  · cases h1
    exact conv_row h hn
def RdI (lo : Nat) (w : World) (v : Value) (l : List Int) : Prop := ∃ a cap, v = .slice a l.length cap ∧ l.length ≤ cap ∧ cap ≤ maxLen ∧
  (0 < l.length → ∃ b off, a = some ⟨b, off, none⟩ ∧ lo ≤ b ∧ b < w.heap.size ∧ ∀ i x, l[i]? = some x → w.cell? ⟨b, off + i, none⟩ = some (.int .i64 x))
theorem RdI.up {lo : Nat} {w w' : World} {v : Value} {l : List Int} (h : RdI lo w v l) (hu : Up w w') : RdI lo w' v l := by
  obtain ⟨a, cap, h1, h2, h2', h3⟩ := h
  refine ⟨a, cap, h1, h2, h2', fun hp => ?_⟩
  obtain ⟨b, off, e1, e2, e4, e5⟩ := h3 hp
  exact ⟨b, off, e1, e2, Nat.lt_of_lt_of_le e4 hu.size, fun i p hi => (hu.cell (p := ⟨b, _, none⟩) e4).trans (e5 i p hi)⟩
theorem RdI.of_own {w : World} {base : Nat} {v : Value} {l : List Int} (h : ownI w base v l) : RdI base w v l := by
  rcases ownsRow_read h with ⟨rfl, h2⟩ | ⟨g, cap, rfl, h1, h2, h3, h4, h5⟩
  · exact ⟨none, 0, by rw [h2], by omega, by unfold maxLen; omega, fun h => by omega⟩
  · refine ⟨some ⟨g, 0, none⟩, cap, rfl, h1, h2, fun _ => ⟨g, 0, rfl, h3, h4, fun i x hi => ?_⟩⟩
    rw [Nat.zero_add]
    refine h5 _ _ ?_
    simp [cellsI, hi]
structure WkR where
  ws : List Int
  data : List UInt8
  ok : Bool
def walkN : KnD → List Int → List Int → List UInt8 → WkR
  | _, [], ws, d => ⟨ws, d, decide (d.length ≤ 2000)⟩
  | k, x :: xs, ws, d =>
    if x = (k.c : Int) + 1 then ⟨ws ++ [(k.width : Int)], d, decide (xs = [])⟩
    else if x = (k.c : Int) then walkN k.cleared xs (ws ++ [(k.width : Int)]) d
    else if k.follows x = false ∨ 2000 < d.length then ⟨ws ++ [(k.width : Int)], [], false⟩
    else walkN (k.after x) xs (ws ++ [(k.width : Int)]) (d ++ k.any x)
theorem walkN_end {k : KnD} {x : Int} {xs ws : List Int} {d : List UInt8} (h : x = (k.c : Int) + 1) : walkN k (x :: xs) ws d = ⟨ws ++ [(k.width : Int)], d, decide (xs = [])⟩ := by rw [walkN, if_pos h]
theorem walkN_clear {k : KnD} {x : Int} {xs ws : List Int} {d : List UInt8} (h : x = (k.c : Int)) : walkN k (x :: xs) ws d = walkN k.cleared xs (ws ++ [(k.width : Int)]) d := by rw [walkN, if_neg (by omega), if_pos h]
theorem walkN_bad {k : KnD} {x : Int} {xs ws : List Int} {d : List UInt8} (h1 : x ≠ (k.c : Int) + 1) (h2 : x ≠ (k.c : Int)) (h : k.follows x = false ∨ 2000 < d.length) : walkN k (x :: xs) ws d = ⟨ws ++ [(k.width : Int)], [], false⟩ := by rw [walkN, if_neg h1, if_neg h2, if_pos h]
theorem walkN_word {k : KnD} {x : Int} {xs ws : List Int} {d : List UInt8} (h1 : x ≠ (k.c : Int) + 1) (h2 : x ≠ (k.c : Int)) (h : k.follows x = true) (h3 : d.length ≤ 2000) : walkN k (x :: xs) ws d = walkN (k.after x) xs (ws ++ [(k.width : Int)]) (d ++ k.any x) := by
  rw [walkN, if_neg h1, if_neg h2, if_neg (by rw [h]; simp; omega)]
structure WkAt (T : WkR) (codes : List Int) (lo : Nat) (w : World) (k : KnD) (v : Value) (i : Nat) (ws : List Int) (d : List UInt8) (vw vd : Value) (wr : World) : Prop where
  le : i ≤ codes.length
  tot : walkN k (codes.drop i) ws d = T
  wl : ws.length = i
  dl : d.length ≤ 3024
  ok : k.Ok
  kn : KnAt w.heap.size k v wr
  pr : RdP lo w v k.ps ∨ ownPr wr (w.heap.size + 2) v k.ps
  own : ownI wr (w.heap.size + 2) vw ws
  dat : ownU wr (w.heap.size + 2) vd d
  res : KnAt (w.heap.size + 1) ⟨⟨0, 0, 0⟩, [], 0, 0⟩ (.slice none 0 0) wr
  up : Up w wr
theorem WkAt.rd {T : WkR} {codes : List Int} {lo : Nat} {w : World} {k : KnD} {v : Value} {i : Nat} {ws : List Int} {d : List UInt8} {vw vd : Value} {wr : World} (h : WkAt T codes lo w k v i ws d vw vd wr) : RdP 0 wr v k.ps := by
  rcases h.pr with h1 | h1
  · exact (h1.up h.up).low (Nat.zero_le _)
  · exact (RdP.of_own h1).low (Nat.zero_le _)
structure WkB (codes : List Int) (lo : Nat) (w : World) (k : KnD) (v : Value) (ws : List Int) (d : List UInt8) (vw vd : Value) (wr : World) : Prop where
  kn : KnAt w.heap.size k v wr
  pr : RdP lo w v k.ps ∨ ownPr wr (w.heap.size + 2) v k.ps
  own : ownI wr (w.heap.size + 2) vw ws
  dat : ownU wr (w.heap.size + 2) vd d
  res : KnAt (w.heap.size + 1) ⟨⟨0, 0, 0⟩, [], 0, 0⟩ (.slice none 0 0) wr
  up : Up w wr
theorem WkB.upd {codes : List Int} {lo : Nat} {w : World} {k : KnD} {v : Value} {ws : List Int} {d : List UInt8} {vw vd : Value} {wr w' : World} (h : WkB codes lo w k v ws d vw vd wr) (hu : Up wr w') : WkB codes lo w k v ws d vw vd w' :=
  ⟨h.kn.up hu, h.pr.imp id fun h => ownsRow_up h hu, ownsRow_up h.own hu, ownsRow_up h.dat hu, h.res.up hu, h.up.trans hu⟩
theorem WkB.rd {codes : List Int} {lo : Nat} {w : World} {k : KnD} {v : Value} {ws : List Int} {d : List UInt8} {vw vd : Value} {wr : World} (h : WkB codes lo w k v ws d vw vd wr) : RdP 0 wr v k.ps := by
  rcases h.pr with h1 | h1
  · exact (h1.up h.up).low (Nat.zero_le _)
  · exact (RdP.of_own h1).low (Nat.zero_le _)
theorem low_ne {w wr : World} {base : Nat} {e : TypeId} {size n : Nat} {v : Value} {xs : List Value} (h : wr.ownsRow base e size v n xs) {b : Nat} (hb : b < base) : some b ≠ v.ownBlock := fun e => by have := (h.lt _ e.symm).1; omega
theorem low_ne' {w wr : World} {base : Nat} {e : TypeId} {size n : Nat} {v : Value} {xs : List Value} (h : wr.ownsRow base e size v n xs) {b : Nat} (hb : b < base) : v.ownBlock = none ∨ v.ownBlock ≠ some b := by
  cases hv : v.ownBlock with
  | none => exact .inl rfl
  | some g => exact .inr fun e => by have := (h.lt g hv).1; cases e; omega
theorem WkB.bytes {codes : List Int} {lo : Nat} {w : World} {k : KnD} {v : Value} {ws : List Int} {d d' : List UInt8} {vw vd vd' : Value} {wr w' : World} (h : WkB codes lo w k v ws d vw vd wr) (hg : wr.grownBy w' vd.ownBlock) (hn : ownU w' (w.heap.size + 2) vd' d') : WkB codes lo w k v ws d' vw vd' w' :=
  ⟨h.kn.gr hg (low_ne (w := w) h.dat (by omega)), h.pr.imp id fun h1 => h1.kept hg (rows_ne h1 h.dat (by decide)), h.own.kept hg (rows_ne h.own h.dat (by decide)), hn, h.res.gr hg (low_ne (w := w) h.dat (by omega)), h.up.grown hg fun y hy => by have := (h.dat.lt y hy).1; omega⟩
theorem WkAt.b {T : WkR} {codes : List Int} {lo : Nat} {w : World} {k : KnD} {v : Value} {i : Nat} {ws : List Int} {d : List UInt8} {vw vd : Value} {wr : World} (h : WkAt T codes lo w k v i ws d vw vd wr) : WkB codes lo w k v ws d vw vd wr := ⟨h.kn, h.pr, h.own, h.dat, h.res, h.up⟩
end Go.Proofs.YtekogcjdaolcbaaGreatDoor

/- Walks of the reference's draws of settings and data. Conditions: the reader is one (Rdr), its place is bounded. -/
namespace Go.Proofs.YtekogcjdaolcbaaGreatDoor
open Go Go.RowKit
def isSet (v : Value) : Prop := ∃ s : SetD, v = setV s ∧ setOk s = true
set_option maxRecDepth 100000 in
set_option maxHeartbeats 4000000 in
theorem l1Some_any (rb : Nat) (B : Value) (w : World) (N : Nat) (h : Rdr rb B w N) (hN : N ≤ 1000000000) :
    Calls Tryz.prog 126  #[.pointer (some ⟨rb, 0, none⟩)] w (Drawn rb B 5 isSet w) := by
  have hlt := h.lt
  have HR := Lib.hid h
  have hne0 : ¬ w.heap.size = rb := by omega
  have hU := RdUp.refl rb B 0 w
  have e1 : w.heap.size < w.heap.size + 1 := by omega
  have e2 : w.heap.size < w.heap.size + 1 + 1 := by omega
  go_enter Tryz.func126, Tryz.ntmps126
  go_wp2_with (first | (go_at_call 85; ((with_reducible refine (num_at ([2, 3, 2, 1, 8, 5]) HR.out hU (by intro c hU; (repeat (first | with_reducible assumption | refine RdUp.ups ?_ (by with_reducible assumption) | with_reducible refine RdUp.set ?_ (by first | exact Nat.le_refl _ | (simp only []; omega) | (simp; omega)) _ | with_reducible refine RdUp.alloc ?_ _ | with_reducible refine RdUp.drew ?_ | with_reducible exact RdUp.of (Up.refl _)))) (by omega) (by first | rfl | (simp; done) | fail) (by first | rfl | (simp; done) | fail) (by first | rfl | (simp; done) | fail) (by simp) (by simp) (by first | rfl | (simp; done) | fail)).mono ?_); rintro e w' ⟨i, rfl, hi, hU, U⟩; have D := gcell U.1; have Z := U.1.size; (try simp at Z); (try have Y0 : w.heap.size < w'.heap.size := (by omega)); (try have Y1 : w.heap.size + 1 < w'.heap.size := (by omega)); (try have Y2 : w.heap.size + 1 + 1 < w'.heap.size := (by omega)); (try have X0 : w.heap.size < w'.heap.size + 1 := (by omega)); (try have X1 : w.heap.size + 1 < w'.heap.size + 1 := (by omega)); (try have X2 : w.heap.size + 1 + 1 < w'.heap.size + 1 := (by omega)); ((have hl1 : 1 ≤ i := (by simp at hi; omega)); (have hl2 : i ≤ 8 := (by simp at hi; omega)); clear hi))) | (go_at_call 31; ((with_reducible refine (pick_at HR.out hU (by intro c hU; (repeat (first | with_reducible assumption | refine RdUp.ups ?_ (by with_reducible assumption) | with_reducible refine RdUp.set ?_ (by first | exact Nat.le_refl _ | (simp only []; omega) | (simp; omega)) _ | with_reducible refine RdUp.alloc ?_ _ | with_reducible refine RdUp.drew ?_ | with_reducible exact RdUp.of (Up.refl _)))) (by omega)).mono ?_); rintro e w' ⟨i, rfl, hi0, hi1, hU, U⟩; have D := gcell U.1; have Z := U.1.size; (try simp at Z); (try have Y0 : w.heap.size < w'.heap.size := (by omega)); (try have Y1 : w.heap.size + 1 < w'.heap.size := (by omega)); (try have Y2 : w.heap.size + 1 + 1 < w'.heap.size := (by omega)); (try have X0 : w.heap.size < w'.heap.size + 1 := (by omega)); (try have X1 : w.heap.size + 1 < w'.heap.size + 1 := (by omega)); (try have X2 : w.heap.size + 1 + 1 < w'.heap.size + 1 := (by omega)))))
  all_goals
    have q0 : w'.cell? ⟨w.heap.size, 0, none⟩ = some (.int .i64 0) := by simp [go_sem, *]
    have q1 : w'.cell? ⟨w.heap.size, 1, none⟩ = some (.int .i64 0) := by simp [go_sem, *]
    have q2 : w'.cell? ⟨w.heap.size, 2, none⟩ = some (.int .i64 0) := by simp [go_sem, *]
    refine bodyPost_ret (v := _) (by simp [results, Tryz.results126, go_sem, q0, q1, q2]; rfl) rfl ?_
    refine ⟨_, rfl, ⟨⟨_, _, _⟩, rfl, ?_⟩, ?_⟩
    · simp [setOk, inB]; omega
    · exact RdUp.fin hU (by intro c hU; (repeat (first | with_reducible assumption | refine RdUp.ups ?_ (by with_reducible assumption) | with_reducible refine RdUp.set ?_ (by first | exact Nat.le_refl _ | (simp only []; omega) | (simp; omega)) _ | with_reducible refine RdUp.alloc ?_ _ | with_reducible refine RdUp.drew ?_ | with_reducible exact RdUp.of (Up.refl _)))) (by omega)
theorem make_u8 (n : Nat) (hn : n ≤ 1048576) (w : World) : (Instr.makeSlice 22 (.int .i64 0) (.int .i64 (n : Int))).run Tryz.prog w = .ok (.slice (some ⟨w.heap.size, 0, none⟩) 0 n) (w.alloc (.cells (madeCells #[.int .u8 0] n) 5)) := by
  obtain ⟨i0, hi0, hz0, hz1, hz2⟩ := info_parts infoByte
  have := run_make (P := Tryz.prog) w 22 5 i0 _ Tryz.underlying22 hi0 hz0 .i64 .i64 0 n (by omega) (by omega) (by rw [hz2]; omega) (by omega)
  rw [hz1] at this
  simpa [Value.cells] using this
theorem own_made0 {w : World} {base n : Nat} (hb : base ≤ w.heap.size) (hn : n ≤ maxLen) : ownU (w.alloc (.cells (madeCells #[.int .u8 0] n) 5)) base (.slice (some ⟨w.heap.size, 0, none⟩) 0 n) [] :=
  World.ownsRow_made w _ n hb hn (by simp [madeCells])
theorem own_rd {rb : Nat} {w w' : World} {base : Nat} {e : TypeId} {size n : Nat} {v : Value} {xs : List Value} (h : w.ownsRow base e size v n xs) (hb : rb < base) (hg : w.grownBy w' (some rb)) : w'.ownsRow base e size v n xs :=
  h.kept hg (low_ne' (w := w) h hb)
theorem ownU_snocR {w : World} {base : Nat} {v : Value} {l : List UInt8} {y : Int} (h : w.ownsRow base 5 1 v (l.length + 1) (cellsU l ++ [.int .u8 y])) (h0 : 0 ≤ y) (h1 : y < 256) : ownU w base v (l ++ [ub y]) := by
  have e : (l ++ [ub y]).length = l.length + 1 := by simp
  unfold ownU
  rw [e, cellsU_snoc, ub_nat h0 h1]
  exact h
theorem row_ge {w : World} {base : Nat} {e : TypeId} {size n : Nat} {v : Value} {xs : List Value} (h : w.ownsRow base e size v n xs) : ∀ k, v.ownBlock = some k → base ≤ k := fun k hk => (h.lt k hk).1
end Go.Proofs.YtekogcjdaolcbaaGreatDoor

/- Walks of the reference's draws of data and dictionaries. Conditions: the reader is one (Rdr), its place is bounded; the setting is valid. -/
namespace Go.Proofs.YtekogcjdaolcbaaGreatDoor
open Go Go.RowKit
def RelDa (rb : Nat) (B : Value) (n c : Nat) (w : World) (out i : Value) (wr : World) : Prop := ∃ (l : List UInt8) (k : Nat), i = .int .i64 k ∧ l.length + k ≤ n ∧ ownU wr (w.heap.size + 1) out l ∧ RdUp rb B (c + 3 * l.length) w wr
theorem own_at {w : World} {base : Nat} {v : Value} {l : List UInt8} (h : ownU w base v l) (hl : 0 < l.length) : ∃ g c, v = .slice (some ⟨g, 0, none⟩) l.length c ∧ base ≤ g ∧ g < w.heap.size ∧ ∀ i (hi : i < l.length), w.cell? ⟨g, i, none⟩ = some (.int .u8 l[i].toNat) := by
  rcases ownsRow_read h with ⟨rfl, h2⟩ | ⟨g, cap, rfl, h1, h2, h3, h4, h5⟩
  · omega
  · exact ⟨g, cap, rfl, h3, h4, fun i hi => h5 i _ (cellsU_get hi)⟩
theorem mod_bd (x p : Int) (h0 : 0 ≤ x) (h1 : 1 ≤ p) : 0 ≤ x % p ∧ x % p ≤ x := by
  refine ⟨Int.emod_nonneg _ (by omega), ?_⟩
  rcases Int.lt_or_le x p with h | h
  · rw [Int.emod_eq_of_lt h0 h]; exact Int.le_refl _
  · have := Int.emod_lt_of_pos x (by omega : 0 < p); omega
set_option maxRecDepth 100000 in
set_option maxHeartbeats 8000000 in
theorem l1Data_any (rb : Nat) (B : Value) (s : SetD) (n : Nat) (w : World) (N : Nat) (h : Rdr rb B w N) (hN : N ≤ 1000000000) (hn : n ≤ 1000) (hs : setOk s = true) :
    Calls Tryz.prog 30  #[.pointer (some ⟨rb, 0, none⟩), setV s, .int .i64 n] w (Drawn rb B 3010 (IsStr n) w) := by
  obtain ⟨i0, hib, hz0, hz1, hz2⟩ := info_parts infoByte
  have hmk := make_u8 n (by omega)
  have hlt := h.lt
  have HR := Lib.hid h
  have hne0 : ¬ w.heap.size = rb := by omega
  have hne1 : ¬ w.heap.size + 1 = rb := by omega
  have hU := RdUp.refl rb B 0 w
  have e1 : w.heap.size < w.heap.size + 1 := by omega
  have e2 : w.heap.size < w.heap.size + 1 + 1 := by omega
  have e3 : w.heap.size + 1 < w.heap.size + 1 + 1 := by omega
  have cK := fun wx => l1Clear_any s wx hs
  obtain ⟨hcb1, hcb2, -, -⟩ := clr_bd hs
  simp only [setV] at *
  clear hs
  have ho0 : ownU ((w.alloc (.cells #[.int .i64 s.ord, .int .i64 s.lit, .int .i64 s.most] 24)).alloc (.cells (madeCells #[.int .u8 0] n) 5)) (w.heap.size + 1) (.slice (some ⟨w.heap.size + 1, 0, none⟩) 0 n) [] := by
    have h0 := own_made0 (w := w.alloc (.cells #[.int .i64 s.ord, .int .i64 s.lit, .int .i64 s.most] 24)) (base := w.heap.size + 1) (n := n) (by simp) (by unfold maxLen; omega)
    rwa [size_alloc] at h0
  go_enter Tryz.func30, Tryz.ntmps30
  go_wp2_with ((go_at_call 86; (with_reducible refine (cK _).mono ?_); rintro e w1 ⟨rfl, U1⟩; have B1 := bcell U1; have Z1 := U1.size; (try simp at Z1); (try rw [Nat.add_one_le_iff] at Z1)))
  have ho1 := ownsRow_up ho0 U1
  have x0 : w.heap.size < w1.heap.size := by omega
  have x1 : w.heap.size < w1.heap.size + 1 := by omega
  go_wp2_with ((go_at_call 85; ((with_reducible refine (num_at ([2, 3, ((clr s : Nat) : Int), 1]) HR.out hU (by intro c hU; (repeat (first | with_reducible assumption | refine RdUp.ups ?_ (by with_reducible assumption) | with_reducible refine RdUp.set ?_ (by first | exact Nat.le_refl _ | (simp only []; omega) | (simp; omega)) _ | with_reducible refine RdUp.alloc ?_ _ | with_reducible refine RdUp.drew ?_ | with_reducible exact RdUp.of (Up.refl _)))) (by omega) (by first | rfl | (simp; done) | fail) (by first | rfl | (simp; done) | fail) (by first | rfl | (simp; done) | fail) (by simp) (by simp) (by first | rfl | (simp; done) | fail)).mono ?_); rintro e w' ⟨i, rfl, hi, hU, U⟩; have D := gcell U.1; have Z := U.1.size; (try simp at Z); (try have Y0 : w.heap.size < w'.heap.size := (by omega)); (try have Y1 : w.heap.size + 1 < w'.heap.size := (by omega)); (try have Y2 : w.heap.size + 1 + 1 < w'.heap.size := (by omega)); (try have X0 : w.heap.size < w'.heap.size + 1 := (by omega)); (try have X1 : w.heap.size + 1 < w'.heap.size + 1 := (by omega)); (try have X2 : w.heap.size + 1 + 1 < w'.heap.size + 1 := (by omega)); ((have hp1 : 1 ≤ i := (by simp at hi; omega)); (have hp2 : i ≤ 256 := (by simp at hi; omega)); clear hi))))
  have ho := own_rd (ho1.alloc _) (by omega) U.1
  refine (cK _).mono ?_
  rintro e w3 ⟨rfl, U3⟩
  have ho := ownsRow_up ho U3
  have hz3 := U3.size
  have hU := hU.ups U3
  clear D U Z Y0 X0 B1 Z1 U1 U3 ho1 ho0
  rcases Int.lt_or_le (clr s : Int) i with hle | hle
  · have hq1 : (1 : Int) ≤ (clr s : Int) := by omega
    have hq2 : (clr s : Int) ≤ 256 := by omega
    have hrb : rb < w.heap.size + 1 := by omega
    clear hcb1 hcb2
    generalize ((clr s : Nat) : Int) = part at *
    go_wp2_with (first | (go_at_call 31; ((with_reducible refine (pick_at (n := 7) HR.out hU (by intro c hU; (repeat (first | with_reducible assumption | refine RdUp.ups ?_ (by with_reducible assumption) | with_reducible refine RdUp.set ?_ (by first | exact Nat.le_refl _ | (simp only []; omega) | (simp; omega)) _ | with_reducible refine RdUp.alloc ?_ _ | with_reducible refine RdUp.drew ?_ | with_reducible exact RdUp.of (Up.refl _)))) (by omega)).mono ?_); rintro e w' ⟨per, rfl, per0, per1, hU, U⟩; have D := gcell U.1; have Z := U.1.size; (try simp at Z); (try have Y0 : w.heap.size < w'.heap.size := (by omega)); (try have Y1 : w.heap.size + 1 < w'.heap.size := (by omega)); (try have Y2 : w.heap.size + 1 + 1 < w'.heap.size := (by omega)); (try have X0 : w.heap.size < w'.heap.size + 1 := (by omega)); (try have X1 : w.heap.size + 1 < w'.heap.size + 1 := (by omega)); (try have X2 : w.heap.size + 1 + 1 < w'.heap.size + 1 := (by omega)); (have ho := own_rd ho hrb U.1))) | (go_at_call 31; ((with_reducible refine (pick_at (n := 4) HR.out hU (by intro c hU; (repeat (first | with_reducible assumption | refine RdUp.ups ?_ (by with_reducible assumption) | with_reducible refine RdUp.set ?_ (by first | exact Nat.le_refl _ | (simp only []; omega) | (simp; omega)) _ | with_reducible refine RdUp.alloc ?_ _ | with_reducible refine RdUp.drew ?_ | with_reducible exact RdUp.of (Up.refl _)))) (by omega)).mono ?_); rintro e w' ⟨mode, rfl, mode0, mode1, hU, U⟩; have D := gcell U.1; have Z := U.1.size; (try simp at Z); (try have Y0 : w.heap.size < w'.heap.size := (by omega)); (try have Y1 : w.heap.size + 1 < w'.heap.size := (by omega)); (try have Y2 : w.heap.size + 1 + 1 < w'.heap.size := (by omega)); (try have X0 : w.heap.size < w'.heap.size + 1 := (by omega)); (try have X1 : w.heap.size + 1 < w'.heap.size + 1 := (by omega)); (try have X2 : w.heap.size + 1 + 1 < w'.heap.size + 1 := (by omega)); (have ho := own_rd ho hrb U.1))) | (go_at_call 31; ((with_reducible refine (pick_at (n := (n : Int) + 1) HR.out hU (by intro c hU; (repeat (first | with_reducible assumption | refine RdUp.ups ?_ (by with_reducible assumption) | with_reducible refine RdUp.set ?_ (by first | exact Nat.le_refl _ | (simp only []; omega) | (simp; omega)) _ | with_reducible refine RdUp.alloc ?_ _ | with_reducible refine RdUp.drew ?_ | with_reducible exact RdUp.of (Up.refl _)))) (by omega)).mono ?_); rintro e w' ⟨kk, rfl, kk0, kk1, hU, U⟩; have D := gcell U.1; have Z := U.1.size; (try simp at Z); (try have Y0 : w.heap.size < w'.heap.size := (by omega)); (try have Y1 : w.heap.size + 1 < w'.heap.size := (by omega)); (try have Y2 : w.heap.size + 1 + 1 < w'.heap.size := (by omega)); (try have X0 : w.heap.size < w'.heap.size + 1 := (by omega)); (try have X1 : w.heap.size + 1 < w'.heap.size + 1 := (by omega)); (try have X2 : w.heap.size + 1 + 1 < w'.heap.size + 1 := (by omega)); (have ho := own_rd ho hrb U.1))))
    obtain ⟨k, rfl⟩ := Int.eq_ofNat_of_zero_le kk0
    have hU1 := hU
    obtain ⟨pn, hpn⟩ := Int.eq_ofNat_of_zero_le (by omega : 0 ≤ 1 + per)
    rw [hpn]
    have hpn1 : 1 ≤ pn := by omega
    have hpn2 : pn ≤ 7 := by omega
    clear hpn per0 per1 D U Z Y0 X0 Y1 X1 Y2 X2
    go_loopw [7, 11] (fun out i wr => RelDa rb B n 4 w out i wr) (fun _ i _ => (intOf i).toNat)
    case atStart => exact ⟨[], k, rfl, by simp; omega, ho, hU1⟩
    case round =>
      clear ho hU1
      obtain ⟨l, k, rfl, hlk, ho, hU⟩ := hrel
      have hwz := hU.1.size
      have hll : l.length ≤ 1000 := by omega
      by_cases hk : 0 < k
      · rcases (by omega : mode = 0 ∨ mode = 1 ∨ 2 ≤ mode) with rfl | rfl | hmo
        · rcases Nat.eq_zero_or_pos l.length with hl | hl
          · have hl0 : ¬ (0 : Int) < (l.length : Int) := by omega
            obtain ⟨a, c, rfl⟩ := ownsRow_shape ho
            have HL := Lib.hid hl
            clear hl
            go_wp2_with (first | (go_at_call 31; ((with_reducible refine (pick_at (n := 256) HR.out hU (by intro c hU; (repeat (first | with_reducible assumption | refine RdUp.ups ?_ (by with_reducible assumption) | with_reducible refine RdUp.set ?_ (by first | exact Nat.le_refl _ | (simp only []; omega) | (simp; omega)) _ | with_reducible refine RdUp.alloc ?_ _ | with_reducible refine RdUp.drew ?_ | with_reducible exact RdUp.of (Up.refl _)))) (by omega)).mono ?_); rintro e w' ⟨x, rfl, x0, x1, hU, U⟩; have D := gcell U.1; have Z := U.1.size; (try simp at Z); (try have Y0 : w.heap.size < w'.heap.size := (by omega)); (try have Y1 : w.heap.size + 1 < w'.heap.size := (by omega)); (try have Y2 : w.heap.size + 1 + 1 < w'.heap.size := (by omega)); (try have X0 : w.heap.size < w'.heap.size + 1 := (by omega)); (try have X1 : w.heap.size + 1 < w'.heap.size + 1 := (by omega)); (try have X2 : w.heap.size + 1 + 1 < w'.heap.size + 1 := (by omega)); (have ho := own_rd ho hrb U.1; obtain ⟨hm0, hm1⟩ := mod_bd x part (by omega) (by omega)))) | (at_builtin; refine wpList_append_own _ rfl _ _ 22 rfl (w.heap.size + 1) 5 i0 (.int .u8 0) 1 1 Tryz.underlying22 hib hz0 hz1 hz2 rfl (by decide) _ _ _ rfl ((ho).alloc _) ⟨(w').heap.size, 0, none⟩ 1 1 [.int .u8 (x % part)] rfl rfl (new_cells [.int .u8 (x % part)] _ rfl) (by intro u hu; simp at hu; subst hu; rfl) (by unfold maxLen; omega) (by omega) (by simp; omega) ?_; rintro v2 w2 hown2 hgr2 -; have hsn := ownU_snocR hown2 (by omega) (by omega)))
            all_goals
              go_roundw
              case rel => exact ⟨_, k - 1, by go_num, by simp; omega, hsn, RdUp.mono ((hU.alloc _).gr hgr2 (fun y hy => by have := row_ge ho y hy; omega)) (by simp; omega)⟩
              case measure => simp [intOf]; omega
          · obtain ⟨g, c, rfl, hg1, hg2, hcl⟩ := own_at ho hl
            obtain ⟨m, hm⟩ : ∃ m : Nat, ((l.length : Int) - 1 = (m : Int)) := ⟨l.length - 1, by omega⟩
            have hml : m < l.length := by omega
            have hml1 : (m : Int) < (l.length : Int) := by omega
            have hgr : ¬ g = rb := by omega
            have hx1 := hcl m hml
            have hb1 := u8_bd l[m]
            have hb0 : (0 : Int) ≤ (l[m].toNat : Int) := Int.natCast_nonneg _
            generalize (l[m].toNat : Int) = z1 at *
            clear hcl
            go_wp2_with (first | (go_at_call 31; ((with_reducible refine (pick_at (n := 256) HR.out hU (by intro c hU; (repeat (first | with_reducible assumption | refine RdUp.ups ?_ (by with_reducible assumption) | with_reducible refine RdUp.set ?_ (by first | exact Nat.le_refl _ | (simp only []; omega) | (simp; omega)) _ | with_reducible refine RdUp.alloc ?_ _ | with_reducible refine RdUp.drew ?_ | with_reducible exact RdUp.of (Up.refl _)))) (by omega)).mono ?_); rintro e w' ⟨x, rfl, x0, x1, hU, U⟩; have D := gcell U.1; have Z := U.1.size; (try simp at Z); (try have Y0 : w.heap.size < w'.heap.size := (by omega)); (try have Y1 : w.heap.size + 1 < w'.heap.size := (by omega)); (try have Y2 : w.heap.size + 1 + 1 < w'.heap.size := (by omega)); (try have X0 : w.heap.size < w'.heap.size + 1 := (by omega)); (try have X1 : w.heap.size + 1 < w'.heap.size + 1 := (by omega)); (try have X2 : w.heap.size + 1 + 1 < w'.heap.size + 1 := (by omega)); (have ho := own_rd ho hrb U.1; have Yg : g < w'.heap.size := (by omega); obtain ⟨hm0, hm1⟩ := mod_bd x part (by omega) (by omega)))) | (go_at_call 31; ((with_reducible refine (pick_at (n := 4) HR.out hU (by intro c hU; (repeat (first | with_reducible assumption | refine RdUp.ups ?_ (by with_reducible assumption) | with_reducible refine RdUp.set ?_ (by first | exact Nat.le_refl _ | (simp only []; omega) | (simp; omega)) _ | with_reducible refine RdUp.alloc ?_ _ | with_reducible refine RdUp.drew ?_ | with_reducible exact RdUp.of (Up.refl _)))) (by omega)).mono ?_); rintro e w' ⟨y4, rfl, y40, y41, hU, U⟩; have D := gcell U.1; have Z := U.1.size; (try simp at Z); (try have Y0 : w.heap.size < w'.heap.size := (by omega)); (try have Y1 : w.heap.size + 1 < w'.heap.size := (by omega)); (try have Y2 : w.heap.size + 1 + 1 < w'.heap.size := (by omega)); (try have X0 : w.heap.size < w'.heap.size + 1 := (by omega)); (try have X1 : w.heap.size + 1 < w'.heap.size + 1 := (by omega)); (try have X2 : w.heap.size + 1 + 1 < w'.heap.size + 1 := (by omega)); (have ho := own_rd ho hrb U.1; have Yg : g < w'.heap.size := (by omega); skip))) | (at_builtin; refine wpList_append_own _ rfl _ _ 22 rfl (w.heap.size + 1) 5 i0 (.int .u8 0) 1 1 Tryz.underlying22 hib hz0 hz1 hz2 rfl (by decide) _ _ _ rfl ((ho).alloc _) ⟨(w').heap.size, 0, none⟩ 1 1 [.int .u8 (x % part)] rfl rfl (new_cells [.int .u8 (x % part)] _ rfl) (by intro u hu; simp at hu; subst hu; rfl) (by unfold maxLen; omega) (by omega) (by simp; omega) ?_; rintro v2 w2 hown2 hgr2 -; have hsn := ownU_snocR hown2 (by omega) (by omega)) | (at_builtin; refine wpList_append_own _ rfl _ _ 22 rfl (w.heap.size + 1) 5 i0 (.int .u8 0) 1 1 Tryz.underlying22 hib hz0 hz1 hz2 rfl (by decide) _ _ _ rfl ((ho).alloc _) ⟨(w').heap.size, 0, none⟩ 1 1 [.int .u8 z1] rfl rfl (new_cells [.int .u8 z1] _ rfl) (by intro u hu; simp at hu; subst hu; rfl) (by unfold maxLen; omega) (by omega) (by simp; omega) ?_; rintro v2 w2 hown2 hgr2 -; have hsn := ownU_snocR hown2 (by omega) (by omega)))
            all_goals
              go_roundw
              case rel => exact ⟨_, k - 1, by go_num, by simp; omega, hsn, RdUp.mono ((hU.alloc _).gr hgr2 (fun y hy => by have := row_ge ho y hy; omega)) (by simp; omega)⟩
              case measure => simp [intOf]; omega
        · by_cases hp : pn ≤ l.length
          · obtain ⟨g, c, rfl, hg1, hg2, hcl⟩ := own_at ho (by omega)
            obtain ⟨m, hm⟩ : ∃ m : Nat, ((l.length : Int) - (pn : Int) = (m : Int)) := ⟨l.length - pn, by omega⟩
            have hml : m < l.length := by omega
            have hml1 : (m : Int) < (l.length : Int) := by omega
            have hgr : ¬ g = rb := by omega
            have hx1 := hcl m hml
            have hb1 := u8_bd l[m]
            have hb0 : (0 : Int) ≤ (l[m].toNat : Int) := Int.natCast_nonneg _
            generalize (l[m].toNat : Int) = z1 at *
            clear hcl
            go_wp2_with (first | (go_at_call 31; ((with_reducible refine (pick_at (n := 256) HR.out hU (by intro c hU; (repeat (first | with_reducible assumption | refine RdUp.ups ?_ (by with_reducible assumption) | with_reducible refine RdUp.set ?_ (by first | exact Nat.le_refl _ | (simp only []; omega) | (simp; omega)) _ | with_reducible refine RdUp.alloc ?_ _ | with_reducible refine RdUp.drew ?_ | with_reducible exact RdUp.of (Up.refl _)))) (by omega)).mono ?_); rintro e w' ⟨x, rfl, x0, x1, hU, U⟩; have D := gcell U.1; have Z := U.1.size; (try simp at Z); (try have Y0 : w.heap.size < w'.heap.size := (by omega)); (try have Y1 : w.heap.size + 1 < w'.heap.size := (by omega)); (try have Y2 : w.heap.size + 1 + 1 < w'.heap.size := (by omega)); (try have X0 : w.heap.size < w'.heap.size + 1 := (by omega)); (try have X1 : w.heap.size + 1 < w'.heap.size + 1 := (by omega)); (try have X2 : w.heap.size + 1 + 1 < w'.heap.size + 1 := (by omega)); (have ho := own_rd ho hrb U.1; have Yg : g < w'.heap.size := (by omega); obtain ⟨hm0, hm1⟩ := mod_bd x part (by omega) (by omega)))) | (go_at_call 31; ((with_reducible refine (pick_at (n := 10) HR.out hU (by intro c hU; (repeat (first | with_reducible assumption | refine RdUp.ups ?_ (by with_reducible assumption) | with_reducible refine RdUp.set ?_ (by first | exact Nat.le_refl _ | (simp only []; omega) | (simp; omega)) _ | with_reducible refine RdUp.alloc ?_ _ | with_reducible refine RdUp.drew ?_ | with_reducible exact RdUp.of (Up.refl _)))) (by omega)).mono ?_); rintro e w' ⟨y10, rfl, y100, y101, hU, U⟩; have D := gcell U.1; have Z := U.1.size; (try simp at Z); (try have Y0 : w.heap.size < w'.heap.size := (by omega)); (try have Y1 : w.heap.size + 1 < w'.heap.size := (by omega)); (try have Y2 : w.heap.size + 1 + 1 < w'.heap.size := (by omega)); (try have X0 : w.heap.size < w'.heap.size + 1 := (by omega)); (try have X1 : w.heap.size + 1 < w'.heap.size + 1 := (by omega)); (try have X2 : w.heap.size + 1 + 1 < w'.heap.size + 1 := (by omega)); (have ho := own_rd ho hrb U.1; have Yg : g < w'.heap.size := (by omega); skip))) | (at_builtin; refine wpList_append_own _ rfl _ _ 22 rfl (w.heap.size + 1) 5 i0 (.int .u8 0) 1 1 Tryz.underlying22 hib hz0 hz1 hz2 rfl (by decide) _ _ _ rfl ((ho).alloc _) ⟨(w').heap.size, 0, none⟩ 1 1 [.int .u8 (x % part)] rfl rfl (new_cells [.int .u8 (x % part)] _ rfl) (by intro u hu; simp at hu; subst hu; rfl) (by unfold maxLen; omega) (by omega) (by simp; omega) ?_; rintro v2 w2 hown2 hgr2 -; have hsn := ownU_snocR hown2 (by omega) (by omega)) | (at_builtin; refine wpList_append_own _ rfl _ _ 22 rfl (w.heap.size + 1) 5 i0 (.int .u8 0) 1 1 Tryz.underlying22 hib hz0 hz1 hz2 rfl (by decide) _ _ _ rfl ((ho).alloc _) ⟨(w').heap.size, 0, none⟩ 1 1 [.int .u8 z1] rfl rfl (new_cells [.int .u8 z1] _ rfl) (by intro u hu; simp at hu; subst hu; rfl) (by unfold maxLen; omega) (by omega) (by simp; omega) ?_; rintro v2 w2 hown2 hgr2 -; have hsn := ownU_snocR hown2 (by omega) (by omega)))
            all_goals
              go_roundw
              case rel => exact ⟨_, k - 1, by go_num, by simp; omega, hsn, RdUp.mono ((hU.alloc _).gr hgr2 (fun y hy => by have := row_ge ho y hy; omega)) (by simp; omega)⟩
              case measure => simp [intOf]; omega
          · obtain ⟨a, c, rfl⟩ := ownsRow_shape ho
            go_wp2_with (first | (go_at_call 31; ((with_reducible refine (pick_at (n := 256) HR.out hU (by intro c hU; (repeat (first | with_reducible assumption | refine RdUp.ups ?_ (by with_reducible assumption) | with_reducible refine RdUp.set ?_ (by first | exact Nat.le_refl _ | (simp only []; omega) | (simp; omega)) _ | with_reducible refine RdUp.alloc ?_ _ | with_reducible refine RdUp.drew ?_ | with_reducible exact RdUp.of (Up.refl _)))) (by omega)).mono ?_); rintro e w' ⟨x, rfl, x0, x1, hU, U⟩; have D := gcell U.1; have Z := U.1.size; (try simp at Z); (try have Y0 : w.heap.size < w'.heap.size := (by omega)); (try have Y1 : w.heap.size + 1 < w'.heap.size := (by omega)); (try have Y2 : w.heap.size + 1 + 1 < w'.heap.size := (by omega)); (try have X0 : w.heap.size < w'.heap.size + 1 := (by omega)); (try have X1 : w.heap.size + 1 < w'.heap.size + 1 := (by omega)); (try have X2 : w.heap.size + 1 + 1 < w'.heap.size + 1 := (by omega)); (have ho := own_rd ho hrb U.1; obtain ⟨hm0, hm1⟩ := mod_bd x part (by omega) (by omega)))) | (at_builtin; refine wpList_append_own _ rfl _ _ 22 rfl (w.heap.size + 1) 5 i0 (.int .u8 0) 1 1 Tryz.underlying22 hib hz0 hz1 hz2 rfl (by decide) _ _ _ rfl ((ho).alloc _) ⟨(w').heap.size, 0, none⟩ 1 1 [.int .u8 (x % part)] rfl rfl (new_cells [.int .u8 (x % part)] _ rfl) (by intro u hu; simp at hu; subst hu; rfl) (by unfold maxLen; omega) (by omega) (by simp; omega) ?_; rintro v2 w2 hown2 hgr2 -; have hsn := ownU_snocR hown2 (by omega) (by omega)))
            all_goals
              go_roundw
              case rel => exact ⟨_, k - 1, by go_num, by simp; omega, hsn, RdUp.mono ((hU.alloc _).gr hgr2 (fun y hy => by have := row_ge ho y hy; omega)) (by simp; omega)⟩
              case measure => simp [intOf]; omega
        · obtain ⟨a, c, rfl⟩ := ownsRow_shape ho
          go_wp2_with (first | (go_at_call 31; ((with_reducible refine (pick_at (n := 256) HR.out hU (by intro c hU; (repeat (first | with_reducible assumption | refine RdUp.ups ?_ (by with_reducible assumption) | with_reducible refine RdUp.set ?_ (by first | exact Nat.le_refl _ | (simp only []; omega) | (simp; omega)) _ | with_reducible refine RdUp.alloc ?_ _ | with_reducible refine RdUp.drew ?_ | with_reducible exact RdUp.of (Up.refl _)))) (by omega)).mono ?_); rintro e w' ⟨x, rfl, x0, x1, hU, U⟩; have D := gcell U.1; have Z := U.1.size; (try simp at Z); (try have Y0 : w.heap.size < w'.heap.size := (by omega)); (try have Y1 : w.heap.size + 1 < w'.heap.size := (by omega)); (try have Y2 : w.heap.size + 1 + 1 < w'.heap.size := (by omega)); (try have X0 : w.heap.size < w'.heap.size + 1 := (by omega)); (try have X1 : w.heap.size + 1 < w'.heap.size + 1 := (by omega)); (try have X2 : w.heap.size + 1 + 1 < w'.heap.size + 1 := (by omega)); (have ho := own_rd ho hrb U.1; obtain ⟨hm0, hm1⟩ := mod_bd x part (by omega) (by omega)))) | (at_builtin; refine wpList_append_own _ rfl _ _ 22 rfl (w.heap.size + 1) 5 i0 (.int .u8 0) 1 1 Tryz.underlying22 hib hz0 hz1 hz2 rfl (by decide) _ _ _ rfl ((ho).alloc _) ⟨(w').heap.size, 0, none⟩ 1 1 [.int .u8 (x % part)] rfl rfl (new_cells [.int .u8 (x % part)] _ rfl) (by intro u hu; simp at hu; subst hu; rfl) (by unfold maxLen; omega) (by omega) (by simp; omega) ?_; rintro v2 w2 hown2 hgr2 -; have hsn := ownU_snocR hown2 (by omega) (by omega)))
          all_goals
            go_roundw
            case rel => exact ⟨_, k - 1, by go_num, by simp; omega, hsn, RdUp.mono ((hU.alloc _).gr hgr2 (fun y hy => by have := row_ge ho y hy; omega)) (by simp; omega)⟩
            case measure => simp [intOf]; omega
      · obtain ⟨a, c, rfl⟩ := ownsRow_shape ho
        have cv := conv_any ho rfl
        clear ho
        go_wp2
        go_ret
        refine ⟨_, rfl, ⟨_, rfl, by rw [bs_size]; omega⟩, ?_⟩
        exact RdUp.fin hU (by intro c hU; (repeat (first | with_reducible assumption | refine RdUp.ups ?_ (by with_reducible assumption) | with_reducible refine RdUp.set ?_ (by first | exact Nat.le_refl _ | (simp only []; omega) | (simp; omega)) _ | with_reducible refine RdUp.alloc ?_ _ | with_reducible refine RdUp.drew ?_ | with_reducible exact RdUp.of (Up.refl _)))) (by omega)
  · obtain ⟨part, rfl⟩ : ∃ p : Int, p = i := ⟨_, rfl⟩
    have hrb : rb < w.heap.size + 1 := by omega
    go_wp2_with (first | (go_at_call 31; ((with_reducible refine (pick_at (n := 7) HR.out hU (by intro c hU; (repeat (first | with_reducible assumption | refine RdUp.ups ?_ (by with_reducible assumption) | with_reducible refine RdUp.set ?_ (by first | exact Nat.le_refl _ | (simp only []; omega) | (simp; omega)) _ | with_reducible refine RdUp.alloc ?_ _ | with_reducible refine RdUp.drew ?_ | with_reducible exact RdUp.of (Up.refl _)))) (by omega)).mono ?_); rintro e w' ⟨per, rfl, per0, per1, hU, U⟩; have D := gcell U.1; have Z := U.1.size; (try simp at Z); (try have Y0 : w.heap.size < w'.heap.size := (by omega)); (try have Y1 : w.heap.size + 1 < w'.heap.size := (by omega)); (try have Y2 : w.heap.size + 1 + 1 < w'.heap.size := (by omega)); (try have X0 : w.heap.size < w'.heap.size + 1 := (by omega)); (try have X1 : w.heap.size + 1 < w'.heap.size + 1 := (by omega)); (try have X2 : w.heap.size + 1 + 1 < w'.heap.size + 1 := (by omega)); (have ho := own_rd ho hrb U.1))) | (go_at_call 31; ((with_reducible refine (pick_at (n := 4) HR.out hU (by intro c hU; (repeat (first | with_reducible assumption | refine RdUp.ups ?_ (by with_reducible assumption) | with_reducible refine RdUp.set ?_ (by first | exact Nat.le_refl _ | (simp only []; omega) | (simp; omega)) _ | with_reducible refine RdUp.alloc ?_ _ | with_reducible refine RdUp.drew ?_ | with_reducible exact RdUp.of (Up.refl _)))) (by omega)).mono ?_); rintro e w' ⟨mode, rfl, mode0, mode1, hU, U⟩; have D := gcell U.1; have Z := U.1.size; (try simp at Z); (try have Y0 : w.heap.size < w'.heap.size := (by omega)); (try have Y1 : w.heap.size + 1 < w'.heap.size := (by omega)); (try have Y2 : w.heap.size + 1 + 1 < w'.heap.size := (by omega)); (try have X0 : w.heap.size < w'.heap.size + 1 := (by omega)); (try have X1 : w.heap.size + 1 < w'.heap.size + 1 := (by omega)); (try have X2 : w.heap.size + 1 + 1 < w'.heap.size + 1 := (by omega)); (have ho := own_rd ho hrb U.1))) | (go_at_call 31; ((with_reducible refine (pick_at (n := (n : Int) + 1) HR.out hU (by intro c hU; (repeat (first | with_reducible assumption | refine RdUp.ups ?_ (by with_reducible assumption) | with_reducible refine RdUp.set ?_ (by first | exact Nat.le_refl _ | (simp only []; omega) | (simp; omega)) _ | with_reducible refine RdUp.alloc ?_ _ | with_reducible refine RdUp.drew ?_ | with_reducible exact RdUp.of (Up.refl _)))) (by omega)).mono ?_); rintro e w' ⟨kk, rfl, kk0, kk1, hU, U⟩; have D := gcell U.1; have Z := U.1.size; (try simp at Z); (try have Y0 : w.heap.size < w'.heap.size := (by omega)); (try have Y1 : w.heap.size + 1 < w'.heap.size := (by omega)); (try have Y2 : w.heap.size + 1 + 1 < w'.heap.size := (by omega)); (try have X0 : w.heap.size < w'.heap.size + 1 := (by omega)); (try have X1 : w.heap.size + 1 < w'.heap.size + 1 := (by omega)); (try have X2 : w.heap.size + 1 + 1 < w'.heap.size + 1 := (by omega)); (have ho := own_rd ho hrb U.1))))
    obtain ⟨k, rfl⟩ := Int.eq_ofNat_of_zero_le kk0
    have hU1 := hU
    obtain ⟨pn, hpn⟩ := Int.eq_ofNat_of_zero_le (by omega : 0 ≤ 1 + per)
    rw [hpn]
    have hpn1 : 1 ≤ pn := by omega
    have hpn2 : pn ≤ 7 := by omega
    clear hpn per0 per1 D U Z Y0 X0 Y1 X1 Y2 X2
    go_loopw [7, 11] (fun out i wr => RelDa rb B n 4 w out i wr) (fun _ i _ => (intOf i).toNat)
    case atStart => exact ⟨[], k, rfl, by simp; omega, ho, hU1⟩
    case round =>
      clear ho hU1
      obtain ⟨l, k, rfl, hlk, ho, hU⟩ := hrel
      have hwz := hU.1.size
      have hll : l.length ≤ 1000 := by omega
      by_cases hk : 0 < k
      · rcases (by omega : mode = 0 ∨ mode = 1 ∨ 2 ≤ mode) with rfl | rfl | hmo
        · rcases Nat.eq_zero_or_pos l.length with hl | hl
          · have hl0 : ¬ (0 : Int) < (l.length : Int) := by omega
            obtain ⟨a, c, rfl⟩ := ownsRow_shape ho
            have HL := Lib.hid hl
            clear hl
            go_wp2_with (first | (go_at_call 31; ((with_reducible refine (pick_at (n := 256) HR.out hU (by intro c hU; (repeat (first | with_reducible assumption | refine RdUp.ups ?_ (by with_reducible assumption) | with_reducible refine RdUp.set ?_ (by first | exact Nat.le_refl _ | (simp only []; omega) | (simp; omega)) _ | with_reducible refine RdUp.alloc ?_ _ | with_reducible refine RdUp.drew ?_ | with_reducible exact RdUp.of (Up.refl _)))) (by omega)).mono ?_); rintro e w' ⟨x, rfl, x0, x1, hU, U⟩; have D := gcell U.1; have Z := U.1.size; (try simp at Z); (try have Y0 : w.heap.size < w'.heap.size := (by omega)); (try have Y1 : w.heap.size + 1 < w'.heap.size := (by omega)); (try have Y2 : w.heap.size + 1 + 1 < w'.heap.size := (by omega)); (try have X0 : w.heap.size < w'.heap.size + 1 := (by omega)); (try have X1 : w.heap.size + 1 < w'.heap.size + 1 := (by omega)); (try have X2 : w.heap.size + 1 + 1 < w'.heap.size + 1 := (by omega)); (have ho := own_rd ho hrb U.1; obtain ⟨hm0, hm1⟩ := mod_bd x part (by omega) (by omega)))) | (at_builtin; refine wpList_append_own _ rfl _ _ 22 rfl (w.heap.size + 1) 5 i0 (.int .u8 0) 1 1 Tryz.underlying22 hib hz0 hz1 hz2 rfl (by decide) _ _ _ rfl ((ho).alloc _) ⟨(w').heap.size, 0, none⟩ 1 1 [.int .u8 (x % part)] rfl rfl (new_cells [.int .u8 (x % part)] _ rfl) (by intro u hu; simp at hu; subst hu; rfl) (by unfold maxLen; omega) (by omega) (by simp; omega) ?_; rintro v2 w2 hown2 hgr2 -; have hsn := ownU_snocR hown2 (by omega) (by omega)))
            all_goals
              go_roundw
              case rel => exact ⟨_, k - 1, by go_num, by simp; omega, hsn, RdUp.mono ((hU.alloc _).gr hgr2 (fun y hy => by have := row_ge ho y hy; omega)) (by simp; omega)⟩
              case measure => simp [intOf]; omega
          · obtain ⟨g, c, rfl, hg1, hg2, hcl⟩ := own_at ho hl
            obtain ⟨m, hm⟩ : ∃ m : Nat, ((l.length : Int) - 1 = (m : Int)) := ⟨l.length - 1, by omega⟩
            have hml : m < l.length := by omega
            have hml1 : (m : Int) < (l.length : Int) := by omega
            have hgr : ¬ g = rb := by omega
            have hx1 := hcl m hml
            have hb1 := u8_bd l[m]
            have hb0 : (0 : Int) ≤ (l[m].toNat : Int) := Int.natCast_nonneg _
            generalize (l[m].toNat : Int) = z1 at *
            clear hcl
            go_wp2_with (first | (go_at_call 31; ((with_reducible refine (pick_at (n := 256) HR.out hU (by intro c hU; (repeat (first | with_reducible assumption | refine RdUp.ups ?_ (by with_reducible assumption) | with_reducible refine RdUp.set ?_ (by first | exact Nat.le_refl _ | (simp only []; omega) | (simp; omega)) _ | with_reducible refine RdUp.alloc ?_ _ | with_reducible refine RdUp.drew ?_ | with_reducible exact RdUp.of (Up.refl _)))) (by omega)).mono ?_); rintro e w' ⟨x, rfl, x0, x1, hU, U⟩; have D := gcell U.1; have Z := U.1.size; (try simp at Z); (try have Y0 : w.heap.size < w'.heap.size := (by omega)); (try have Y1 : w.heap.size + 1 < w'.heap.size := (by omega)); (try have Y2 : w.heap.size + 1 + 1 < w'.heap.size := (by omega)); (try have X0 : w.heap.size < w'.heap.size + 1 := (by omega)); (try have X1 : w.heap.size + 1 < w'.heap.size + 1 := (by omega)); (try have X2 : w.heap.size + 1 + 1 < w'.heap.size + 1 := (by omega)); (have ho := own_rd ho hrb U.1; have Yg : g < w'.heap.size := (by omega); obtain ⟨hm0, hm1⟩ := mod_bd x part (by omega) (by omega)))) | (go_at_call 31; ((with_reducible refine (pick_at (n := 4) HR.out hU (by intro c hU; (repeat (first | with_reducible assumption | refine RdUp.ups ?_ (by with_reducible assumption) | with_reducible refine RdUp.set ?_ (by first | exact Nat.le_refl _ | (simp only []; omega) | (simp; omega)) _ | with_reducible refine RdUp.alloc ?_ _ | with_reducible refine RdUp.drew ?_ | with_reducible exact RdUp.of (Up.refl _)))) (by omega)).mono ?_); rintro e w' ⟨y4, rfl, y40, y41, hU, U⟩; have D := gcell U.1; have Z := U.1.size; (try simp at Z); (try have Y0 : w.heap.size < w'.heap.size := (by omega)); (try have Y1 : w.heap.size + 1 < w'.heap.size := (by omega)); (try have Y2 : w.heap.size + 1 + 1 < w'.heap.size := (by omega)); (try have X0 : w.heap.size < w'.heap.size + 1 := (by omega)); (try have X1 : w.heap.size + 1 < w'.heap.size + 1 := (by omega)); (try have X2 : w.heap.size + 1 + 1 < w'.heap.size + 1 := (by omega)); (have ho := own_rd ho hrb U.1; have Yg : g < w'.heap.size := (by omega); skip))) | (at_builtin; refine wpList_append_own _ rfl _ _ 22 rfl (w.heap.size + 1) 5 i0 (.int .u8 0) 1 1 Tryz.underlying22 hib hz0 hz1 hz2 rfl (by decide) _ _ _ rfl ((ho).alloc _) ⟨(w').heap.size, 0, none⟩ 1 1 [.int .u8 (x % part)] rfl rfl (new_cells [.int .u8 (x % part)] _ rfl) (by intro u hu; simp at hu; subst hu; rfl) (by unfold maxLen; omega) (by omega) (by simp; omega) ?_; rintro v2 w2 hown2 hgr2 -; have hsn := ownU_snocR hown2 (by omega) (by omega)) | (at_builtin; refine wpList_append_own _ rfl _ _ 22 rfl (w.heap.size + 1) 5 i0 (.int .u8 0) 1 1 Tryz.underlying22 hib hz0 hz1 hz2 rfl (by decide) _ _ _ rfl ((ho).alloc _) ⟨(w').heap.size, 0, none⟩ 1 1 [.int .u8 z1] rfl rfl (new_cells [.int .u8 z1] _ rfl) (by intro u hu; simp at hu; subst hu; rfl) (by unfold maxLen; omega) (by omega) (by simp; omega) ?_; rintro v2 w2 hown2 hgr2 -; have hsn := ownU_snocR hown2 (by omega) (by omega)))
            all_goals
              go_roundw
              case rel => exact ⟨_, k - 1, by go_num, by simp; omega, hsn, RdUp.mono ((hU.alloc _).gr hgr2 (fun y hy => by have := row_ge ho y hy; omega)) (by simp; omega)⟩
              case measure => simp [intOf]; omega
        · by_cases hp : pn ≤ l.length
          · obtain ⟨g, c, rfl, hg1, hg2, hcl⟩ := own_at ho (by omega)
            obtain ⟨m, hm⟩ : ∃ m : Nat, ((l.length : Int) - (pn : Int) = (m : Int)) := ⟨l.length - pn, by omega⟩
            have hml : m < l.length := by omega
            have hml1 : (m : Int) < (l.length : Int) := by omega
            have hgr : ¬ g = rb := by omega
            have hx1 := hcl m hml
            have hb1 := u8_bd l[m]
            have hb0 : (0 : Int) ≤ (l[m].toNat : Int) := Int.natCast_nonneg _
            generalize (l[m].toNat : Int) = z1 at *
            clear hcl
            go_wp2_with (first | (go_at_call 31; ((with_reducible refine (pick_at (n := 256) HR.out hU (by intro c hU; (repeat (first | with_reducible assumption | refine RdUp.ups ?_ (by with_reducible assumption) | with_reducible refine RdUp.set ?_ (by first | exact Nat.le_refl _ | (simp only []; omega) | (simp; omega)) _ | with_reducible refine RdUp.alloc ?_ _ | with_reducible refine RdUp.drew ?_ | with_reducible exact RdUp.of (Up.refl _)))) (by omega)).mono ?_); rintro e w' ⟨x, rfl, x0, x1, hU, U⟩; have D := gcell U.1; have Z := U.1.size; (try simp at Z); (try have Y0 : w.heap.size < w'.heap.size := (by omega)); (try have Y1 : w.heap.size + 1 < w'.heap.size := (by omega)); (try have Y2 : w.heap.size + 1 + 1 < w'.heap.size := (by omega)); (try have X0 : w.heap.size < w'.heap.size + 1 := (by omega)); (try have X1 : w.heap.size + 1 < w'.heap.size + 1 := (by omega)); (try have X2 : w.heap.size + 1 + 1 < w'.heap.size + 1 := (by omega)); (have ho := own_rd ho hrb U.1; have Yg : g < w'.heap.size := (by omega); obtain ⟨hm0, hm1⟩ := mod_bd x part (by omega) (by omega)))) | (go_at_call 31; ((with_reducible refine (pick_at (n := 10) HR.out hU (by intro c hU; (repeat (first | with_reducible assumption | refine RdUp.ups ?_ (by with_reducible assumption) | with_reducible refine RdUp.set ?_ (by first | exact Nat.le_refl _ | (simp only []; omega) | (simp; omega)) _ | with_reducible refine RdUp.alloc ?_ _ | with_reducible refine RdUp.drew ?_ | with_reducible exact RdUp.of (Up.refl _)))) (by omega)).mono ?_); rintro e w' ⟨y10, rfl, y100, y101, hU, U⟩; have D := gcell U.1; have Z := U.1.size; (try simp at Z); (try have Y0 : w.heap.size < w'.heap.size := (by omega)); (try have Y1 : w.heap.size + 1 < w'.heap.size := (by omega)); (try have Y2 : w.heap.size + 1 + 1 < w'.heap.size := (by omega)); (try have X0 : w.heap.size < w'.heap.size + 1 := (by omega)); (try have X1 : w.heap.size + 1 < w'.heap.size + 1 := (by omega)); (try have X2 : w.heap.size + 1 + 1 < w'.heap.size + 1 := (by omega)); (have ho := own_rd ho hrb U.1; have Yg : g < w'.heap.size := (by omega); skip))) | (at_builtin; refine wpList_append_own _ rfl _ _ 22 rfl (w.heap.size + 1) 5 i0 (.int .u8 0) 1 1 Tryz.underlying22 hib hz0 hz1 hz2 rfl (by decide) _ _ _ rfl ((ho).alloc _) ⟨(w').heap.size, 0, none⟩ 1 1 [.int .u8 (x % part)] rfl rfl (new_cells [.int .u8 (x % part)] _ rfl) (by intro u hu; simp at hu; subst hu; rfl) (by unfold maxLen; omega) (by omega) (by simp; omega) ?_; rintro v2 w2 hown2 hgr2 -; have hsn := ownU_snocR hown2 (by omega) (by omega)) | (at_builtin; refine wpList_append_own _ rfl _ _ 22 rfl (w.heap.size + 1) 5 i0 (.int .u8 0) 1 1 Tryz.underlying22 hib hz0 hz1 hz2 rfl (by decide) _ _ _ rfl ((ho).alloc _) ⟨(w').heap.size, 0, none⟩ 1 1 [.int .u8 z1] rfl rfl (new_cells [.int .u8 z1] _ rfl) (by intro u hu; simp at hu; subst hu; rfl) (by unfold maxLen; omega) (by omega) (by simp; omega) ?_; rintro v2 w2 hown2 hgr2 -; have hsn := ownU_snocR hown2 (by omega) (by omega)))
            all_goals
              go_roundw
              case rel => exact ⟨_, k - 1, by go_num, by simp; omega, hsn, RdUp.mono ((hU.alloc _).gr hgr2 (fun y hy => by have := row_ge ho y hy; omega)) (by simp; omega)⟩
              case measure => simp [intOf]; omega
          · obtain ⟨a, c, rfl⟩ := ownsRow_shape ho
            go_wp2_with (first | (go_at_call 31; ((with_reducible refine (pick_at (n := 256) HR.out hU (by intro c hU; (repeat (first | with_reducible assumption | refine RdUp.ups ?_ (by with_reducible assumption) | with_reducible refine RdUp.set ?_ (by first | exact Nat.le_refl _ | (simp only []; omega) | (simp; omega)) _ | with_reducible refine RdUp.alloc ?_ _ | with_reducible refine RdUp.drew ?_ | with_reducible exact RdUp.of (Up.refl _)))) (by omega)).mono ?_); rintro e w' ⟨x, rfl, x0, x1, hU, U⟩; have D := gcell U.1; have Z := U.1.size; (try simp at Z); (try have Y0 : w.heap.size < w'.heap.size := (by omega)); (try have Y1 : w.heap.size + 1 < w'.heap.size := (by omega)); (try have Y2 : w.heap.size + 1 + 1 < w'.heap.size := (by omega)); (try have X0 : w.heap.size < w'.heap.size + 1 := (by omega)); (try have X1 : w.heap.size + 1 < w'.heap.size + 1 := (by omega)); (try have X2 : w.heap.size + 1 + 1 < w'.heap.size + 1 := (by omega)); (have ho := own_rd ho hrb U.1; obtain ⟨hm0, hm1⟩ := mod_bd x part (by omega) (by omega)))) | (at_builtin; refine wpList_append_own _ rfl _ _ 22 rfl (w.heap.size + 1) 5 i0 (.int .u8 0) 1 1 Tryz.underlying22 hib hz0 hz1 hz2 rfl (by decide) _ _ _ rfl ((ho).alloc _) ⟨(w').heap.size, 0, none⟩ 1 1 [.int .u8 (x % part)] rfl rfl (new_cells [.int .u8 (x % part)] _ rfl) (by intro u hu; simp at hu; subst hu; rfl) (by unfold maxLen; omega) (by omega) (by simp; omega) ?_; rintro v2 w2 hown2 hgr2 -; have hsn := ownU_snocR hown2 (by omega) (by omega)))
            all_goals
              go_roundw
              case rel => exact ⟨_, k - 1, by go_num, by simp; omega, hsn, RdUp.mono ((hU.alloc _).gr hgr2 (fun y hy => by have := row_ge ho y hy; omega)) (by simp; omega)⟩
              case measure => simp [intOf]; omega
        · obtain ⟨a, c, rfl⟩ := ownsRow_shape ho
          go_wp2_with (first | (go_at_call 31; ((with_reducible refine (pick_at (n := 256) HR.out hU (by intro c hU; (repeat (first | with_reducible assumption | refine RdUp.ups ?_ (by with_reducible assumption) | with_reducible refine RdUp.set ?_ (by first | exact Nat.le_refl _ | (simp only []; omega) | (simp; omega)) _ | with_reducible refine RdUp.alloc ?_ _ | with_reducible refine RdUp.drew ?_ | with_reducible exact RdUp.of (Up.refl _)))) (by omega)).mono ?_); rintro e w' ⟨x, rfl, x0, x1, hU, U⟩; have D := gcell U.1; have Z := U.1.size; (try simp at Z); (try have Y0 : w.heap.size < w'.heap.size := (by omega)); (try have Y1 : w.heap.size + 1 < w'.heap.size := (by omega)); (try have Y2 : w.heap.size + 1 + 1 < w'.heap.size := (by omega)); (try have X0 : w.heap.size < w'.heap.size + 1 := (by omega)); (try have X1 : w.heap.size + 1 < w'.heap.size + 1 := (by omega)); (try have X2 : w.heap.size + 1 + 1 < w'.heap.size + 1 := (by omega)); (have ho := own_rd ho hrb U.1; obtain ⟨hm0, hm1⟩ := mod_bd x part (by omega) (by omega)))) | (at_builtin; refine wpList_append_own _ rfl _ _ 22 rfl (w.heap.size + 1) 5 i0 (.int .u8 0) 1 1 Tryz.underlying22 hib hz0 hz1 hz2 rfl (by decide) _ _ _ rfl ((ho).alloc _) ⟨(w').heap.size, 0, none⟩ 1 1 [.int .u8 (x % part)] rfl rfl (new_cells [.int .u8 (x % part)] _ rfl) (by intro u hu; simp at hu; subst hu; rfl) (by unfold maxLen; omega) (by omega) (by simp; omega) ?_; rintro v2 w2 hown2 hgr2 -; have hsn := ownU_snocR hown2 (by omega) (by omega)))
          all_goals
            go_roundw
            case rel => exact ⟨_, k - 1, by go_num, by simp; omega, hsn, RdUp.mono ((hU.alloc _).gr hgr2 (fun y hy => by have := row_ge ho y hy; omega)) (by simp; omega)⟩
            case measure => simp [intOf]; omega
      · obtain ⟨a, c, rfl⟩ := ownsRow_shape ho
        have cv := conv_any ho rfl
        clear ho
        go_wp2
        go_ret
        refine ⟨_, rfl, ⟨_, rfl, by rw [bs_size]; omega⟩, ?_⟩
        exact RdUp.fin hU (by intro c hU; (repeat (first | with_reducible assumption | refine RdUp.ups ?_ (by with_reducible assumption) | with_reducible refine RdUp.set ?_ (by first | exact Nat.le_refl _ | (simp only []; omega) | (simp; omega)) _ | with_reducible refine RdUp.alloc ?_ _ | with_reducible refine RdUp.drew ?_ | with_reducible exact RdUp.of (Up.refl _)))) (by omega)
end Go.Proofs.YtekogcjdaolcbaaGreatDoor

/- Walks of the reference's functions on bits. Conditions: as each says. -/
namespace Go.Proofs.YtekogcjdaolcbaaGreatDoor
open Go Go.RowKit
def bitB (n i : Nat) : UInt8 := UInt8.ofNat (48 + n / 2 ^ i % 2)
theorem bitB_nat (n i : Nat) : (bitB n i).toNat = 48 + n / 2 ^ i % 2 := by unfold bitB; rw [UInt8.toNat_ofNat']; omega
def lowL (n wd : Nat) : List UInt8 := (List.range wd).map (bitB n)
theorem lowL_succ (n wd : Nat) : lowL n (wd + 1) = lowL n wd ++ [bitB n wd] := by simp [lowL, List.range_succ]
theorem lowL_length (n wd : Nat) : (lowL n wd).length = wd := by simp [lowL]
def codeL (o : Int) (n wd : Nat) : List UInt8 := if o = 0 then lowL n wd else (lowL n wd).reverse
theorem codeL_length (o : Int) (n wd : Nat) : (codeL o n wd).length = wd := by unfold codeL; split <;> simp [lowL_length]
theorem codeL_low {o : Int} (h : o = 0) (n wd : Nat) : codeL o n (wd + 1) = codeL o n wd ++ [bitB n wd] := by unfold codeL; rw [if_pos h, if_pos h, lowL_succ]
theorem codeL_high {o : Int} (h : ¬ o = 0) (n wd : Nat) : codeL o n (wd + 1) = [bitB n wd] ++ codeL o n wd := by unfold codeL; rw [if_neg h, if_neg h, lowL_succ]; simp
theorem bit_num (n i : Nat) : strOfNums [48 + (n : Int) / ((2 ^ i : Nat) : Int) % 2] = bs [bitB n i] := by
  rw [← bs_num]
  congr 1
  simp only [List.map_cons, List.map_nil, List.cons.injEq, and_true]
  rw [bitB_nat]
  omega
theorem and_one (x : Nat) (h : x ≤ 1048576) : bits .and .i64 (x : Int) 1 = ((x % 2 : Nat) : Int) := by
  have := bits_mask .i64 63 (by decide) (fun n h0 h1 => IntWalk.i64_in n (by omega)) 1 (by omega) (x : Int) (by omega) (by omega)
  simpa using this
theorem digit_eq (n j : Nat) (hn : n ≤ 1048576) : wrap64 (48 + bits .and .i64 ((n : Int) / 2 ^ j) 1) % 256 = 48 + (n : Int) / ((2 ^ j : Nat) : Int) % 2 := by
  have h1 : ((n : Int) / 2 ^ j) = ((n / 2 ^ j : Nat) : Int) := by simp
  have h2 : n / 2 ^ j ≤ n := Nat.div_le_self _ _
  rw [h1, and_one _ (by omega), IntWalk.wrap64_in _ (by omega)]
  have h3 : ((n : Int) / ((2 ^ j : Nat) : Int)) = ((n / 2 ^ j : Nat) : Int) := by simp
  rw [h3]
  omega
def RelCd (o : Int) (n wd : Nat) (w : World) (out i : Value) (wr : World) : Prop := ∃ j : Nat, j ≤ wd ∧ i = .int .i64 j ∧ out = .string (bs (codeL o n j)) ∧ Up w wr
set_option maxRecDepth 100000 in
set_option maxHeartbeats 1000000 in
theorem l1Code_any (o : Int) (n wd : Nat) (w : World) (hn : n ≤ 1048576) (hw : wd ≤ 16) :
    Calls Tryz.prog 150  #[.int .i64 o, .int .i64 n, .int .i64 wd] w (Same (.string (bs (codeL o n wd))) w) := by
  have hc := conv_new1
  by_cases ho : o = 0
  · subst ho
    go_enter Tryz.func150, Tryz.ntmps150
    go_wp2
    go_loopw [7, 8] (fun out i wr => RelCd 0 n wd w out i wr) (fun _ i _ => wd - (intOf i).toNat)
    case atStart => exact ⟨0, Nat.zero_le _, rfl, by first | rfl | (unfold codeL; split <;> rfl), Up.refl _⟩
    case round =>
      obtain ⟨j, hj, rfl, rfl, hup⟩ := hrel
      have hcl := bs_size (codeL 0 n j)
      rw [codeL_length] at hcl
      have z1 := strOfNums_size
      by_cases hlt : j < wd
      · have HD : Hid (strOfNums [wrap64 (48 + bits .and .i64 ((n : Int) / 2 ^ j) 1) % 256] = bs [bitB n j]) := by unfold Hid; rw [digit_eq n j hn, bit_num]
        have HC := Lib.hid (codeL_low (o := 0) rfl n j)
        go_wp2
        go_roundw
        case rel => exact ⟨j + 1, by omega, by go_num, by rw [HD.out, bs_app, HC.out], by (repeat (first | with_reducible exact Up.refl _ | with_reducible assumption | with_reducible refine Up.set ?_ (by first | exact Nat.le_refl _ | (simp only []; omega) | (simp; omega)) _ | with_reducible refine Up.alloc ?_ _ | with_reducible refine Up.drew ?_ | refine Up.trans ?_ (by with_reducible assumption)))⟩
        case measure => simp [intOf]; omega
      · have e : j = wd := by omega
        subst e
        go_wp2
        go_ret
        exact ⟨rfl, hup⟩
  · have ho' : (o == 0) = false := by simpa using ho
    have HO := Lib.hid ho
    clear ho
    go_enter Tryz.func150, Tryz.ntmps150
    go_wp2
    go_loopw [7, 8] (fun out i wr => RelCd o n wd w out i wr) (fun _ i _ => wd - (intOf i).toNat)
    case atStart => exact ⟨0, Nat.zero_le _, rfl, by first | rfl | (unfold codeL; split <;> rfl), Up.refl _⟩
    case round =>
      obtain ⟨j, hj, rfl, rfl, hup⟩ := hrel
      have hcl := bs_size (codeL o n j)
      rw [codeL_length] at hcl
      have z1 := strOfNums_size
      by_cases hlt : j < wd
      · have HD : Hid (strOfNums [wrap64 (48 + bits .and .i64 ((n : Int) / 2 ^ j) 1) % 256] = bs [bitB n j]) := by unfold Hid; rw [digit_eq n j hn, bit_num]
        have HC := Lib.hid (codeL_high HO.out n j)
        go_wp2
        go_roundw
        case rel => exact ⟨j + 1, by omega, by go_num, by rw [HD.out, bs_app, HC.out], by (repeat (first | with_reducible exact Up.refl _ | with_reducible assumption | with_reducible refine Up.set ?_ (by first | exact Nat.le_refl _ | (simp only []; omega) | (simp; omega)) _ | with_reducible refine Up.alloc ?_ _ | with_reducible refine Up.drew ?_ | refine Up.trans ?_ (by with_reducible assumption)))⟩
        case measure => simp [intOf]; omega
      · have e : j = wd := by omega
        subst e
        go_wp2
        go_ret
        exact ⟨rfl, hup⟩
def numF (l : List UInt8) : Int := l.foldl (fun (n : Int) b => 2 * n + (b.toNat : Int) - 48) 0
theorem numF_snoc (l : List UInt8) (b : UInt8) : numF (l ++ [b]) = 2 * numF l + b.toNat - 48 := by simp [numF, List.foldl_append]
def isBits (l : List UInt8) : Prop := ∀ b ∈ l, b.toNat = 48 ∨ b.toNat = 49
theorem numF_bd {l : List UInt8} (h : isBits l) : 0 ≤ numF l ∧ numF l < ((2 ^ l.length : Nat) : Int) := by
  induction l using snoc_ind with
  | h0 => decide
  | h1 l b ih =>
    obtain ⟨h1, h2⟩ := ih fun x hx => h x (List.mem_append_left _ hx)
    have hb := h b (List.mem_append_right _ (List.mem_singleton.2 rfl))
    rw [numF_snoc, List.length_append, List.length_cons, List.length_nil, Nat.zero_add, Nat.pow_succ]
    omega
theorem isBits.take {l : List UInt8} (h : isBits l) (k : Nat) : isBits (l.take k) := fun b hb => h b (List.mem_of_mem_take hb)
theorem isBits.drop {l : List UInt8} (h : isBits l) (k : Nat) : isBits (l.drop k) := fun b hb => h b (List.mem_of_mem_drop hb)
theorem isBits.app {l m : List UInt8} (h : isBits l) (h' : isBits m) : isBits (l ++ m) := fun b hb => (List.mem_append.1 hb).elim (h b) (h' b)
theorem isBits.rev {l : List UInt8} (h : isBits l) : isBits l.reverse := fun b hb => h b (List.mem_reverse.1 hb)
theorem isBits_code (o : Int) (n wd : Nat) : isBits (codeL o n wd) := by
  have h : isBits (lowL n wd) := fun b hb => by
    simp only [lowL, List.mem_map, List.mem_range] at hb
    obtain ⟨i, -, rfl⟩ := hb
    rw [bitB_nat]; omega
  unfold codeL
  split
  · exact h
  · exact h.rev
def numL (o : Int) (l : List UInt8) : Int := if o = 0 then numF l.reverse else numF l
theorem numL_bd {o : Int} {l : List UInt8} (h : isBits l) : 0 ≤ numL o l ∧ numL o l < ((2 ^ l.length : Nat) : Int) := by
  unfold numL
  split
  · have := numF_bd h.rev; rwa [List.length_reverse] at this
  · exact numF_bd h
def RelNu (f : Nat → Int) (n : Nat) (t i : Value) : Prop := ∃ j : Nat, j ≤ n ∧ i = .int .i64 j ∧ t = .int .i64 (f j)
theorem pow_len {k n : Nat} (h : k ≤ n) (hn : n ≤ 16) : 2 ^ k ≤ 65536 := by
  have : 2 ^ k ≤ 2 ^ 16 := Nat.pow_le_pow_right (by decide) (by omega)
  simpa using this
set_option maxRecDepth 100000 in
set_option maxHeartbeats 1000000 in
theorem l1Number_any (o : Int) (s : ByteArray) (w : World) (hb : isBits s.data.toList) (hs : s.size ≤ 16) :
    Calls Tryz.prog 111  #[.int .i64 o, .string s] w fun e w' => e = .returned (.int .i64 (numL o s.data.toList)) ∧ w = w' := by
  have hlen := ba_len s
  by_cases ho : o = 0
  · have hE : Hid (numL o s.data.toList = numF s.data.toList.reverse) := by unfold Hid numL; rw [if_pos ho]
    rw [hE.out]
    have hstep : ∀ j, j < s.size → numF (s.data.toList.reverse.take (j + 1)) = 2 * numF (s.data.toList.reverse.take j) + (s.data.toList[s.size - 1 - j]?.getD 0).toNat - 48 := fun j hj => by
      have hj' : j < s.data.toList.reverse.length := by rw [List.length_reverse]; omega
      rw [List.take_succ_eq_append_getElem hj', numF_snoc, List.getElem_reverse, List.getElem?_eq_getElem (by omega)]
      simp only [hlen, Option.getD_some]
    have hbd := fun j => numF_bd (hb.rev.take j)
    have hfin : numF (s.data.toList.reverse.take s.size) = numF s.data.toList.reverse := by rw [List.take_of_length_le (by rw [List.length_reverse]; omega)]
    have hlr : ∀ j, (s.data.toList.reverse.take j).length ≤ j := fun j => by rw [List.length_take]; omega
    generalize hf : (fun j => numF (s.data.toList.reverse.take j)) = f
    have hf' : ∀ j, numF (s.data.toList.reverse.take j) = f j := fun j => by rw [← hf]
    simp only [hf'] at hstep hbd hfin
    have hf0 : f 0 = 0 := by rw [← hf']; rfl
    have HS := Lib.hid hstep
    have HB := Lib.hid hbd
    have HF := Lib.hid hfin
    have HBi := Lib.hid hb
    clear hstep hbd hfin hf hf' hb hE
    subst ho
    go_enter Tryz.func111, Tryz.ntmps111
    go_wp2
    go_loop [5, 6] (fun t i => RelNu f s.size t i) (fun _ i => s.size - (intOf i).toNat)
    case atStart => exact ⟨0, Nat.zero_le _, rfl, by rw [hf0]⟩
    case round =>
      obtain ⟨j, hj, rfl, rfl⟩ := hrel
      have h1 := (HB.out j).1
      have h2 : f j < 65536 := by
        have := (HB.out j).2
        have h3 := pow_len (Nat.le_trans (hlr j) hj) hs
        omega
      by_cases hlt : j < s.size
      · have hu := u8_bd s[s.size - 1 - j]
        have HG : Hid (f (j + 1) = 2 * f j + (s[s.size - 1 - j].toNat : Int) - 48) := by
          have h5 := HS.out j hlt
          rw [List.getElem?_eq_getElem (by omega), Option.getD_some] at h5
          exact h5
        clear hf0
        generalize f j = fj at *
        go_wp2
        go_round
        case rel => exact ⟨j + 1, by omega, by go_num, by rw [HG.out]⟩
        case measure => simp [intOf]; omega
      · have e : j = s.size := by omega
        subst e
        go_wp2
        go_ret
        exact ⟨ret_int HF.out, rfl⟩
  · have hE : Hid (numL o s.data.toList = numF s.data.toList) := by unfold Hid numL; rw [if_neg ho]
    rw [hE.out]
    have hstep : ∀ j, j < s.size → numF (s.data.toList.take (j + 1)) = 2 * numF (s.data.toList.take j) + (s.data.toList[j]?.getD 0).toNat - 48 := fun j hj => by
      have hj' : j < s.data.toList.length := by omega
      rw [List.take_succ_eq_append_getElem hj', numF_snoc, List.getElem?_eq_getElem hj']
      simp only [Option.getD_some]
    have hbd := fun j => numF_bd (hb.take j)
    have hfin : numF (s.data.toList.take s.size) = numF s.data.toList := by rw [List.take_of_length_le (by omega)]
    have hlr : ∀ j, (s.data.toList.take j).length ≤ j := fun j => by rw [List.length_take]; omega
    generalize hf : (fun j => numF (s.data.toList.take j)) = f
    have hf' : ∀ j, numF (s.data.toList.take j) = f j := fun j => by rw [← hf]
    simp only [hf'] at hstep hbd hfin
    have hf0 : f 0 = 0 := by rw [← hf']; rfl
    have HS := Lib.hid hstep
    have HB := Lib.hid hbd
    have HF := Lib.hid hfin
    have ho' : (o == 0) = false := by simpa using ho
    clear hstep hbd hfin hf hf' hb hE ho
    go_enter Tryz.func111, Tryz.ntmps111
    go_wp2
    go_loop [5, 6] (fun t i => RelNu f s.size t i) (fun _ i => s.size - (intOf i).toNat)
    case atStart => exact ⟨0, Nat.zero_le _, rfl, by rw [hf0]⟩
    case round =>
      obtain ⟨j, hj, rfl, rfl⟩ := hrel
      have h1 := (HB.out j).1
      have h2 : f j < 65536 := by
        have := (HB.out j).2
        have h3 := pow_len (Nat.le_trans (hlr j) hj) hs
        omega
      by_cases hlt : j < s.size
      · have hu := u8_bd s[j]
        have HG : Hid (f (j + 1) = 2 * f j + (s[j].toNat : Int) - 48) := by
          have h5 := HS.out j hlt
          rw [List.getElem?_eq_getElem (by omega), Option.getD_some] at h5
          exact h5
        clear hf0
        generalize f j = fj at *
        go_wp2
        go_round
        case rel => exact ⟨j + 1, by omega, by go_num, by rw [HG.out]⟩
        case measure => simp [intOf]; omega
      · have e : j = s.size := by omega
        subst e
        go_wp2
        go_ret
        exact ⟨ret_int HF.out, rfl⟩
def rep (n : Nat) (l : List UInt8) : List UInt8 := (List.replicate n l).flatten
theorem rep_zero (l : List UInt8) : rep 0 l = [] := rfl
theorem rep_succ (n : Nat) (l : List UInt8) : rep (n + 1) l = l ++ rep n l := by simp [rep, List.replicate_succ]
theorem rep_even (m : Nat) (l : List UInt8) : rep (2 * m) l = rep m (l ++ l) := by
  induction m with
  | zero => rfl
  | succ m ih => rw [show 2 * (m + 1) = 2 * m + 1 + 1 by omega, rep_succ, rep_succ, ih, rep_succ, List.append_assoc]
theorem half_mul (k a : Nat) : k / 2 * (a + a) ≤ k * a := by
  have h : k / 2 * (a + a) = (k / 2 * 2) * a := by rw [Nat.mul_assoc, Nat.two_mul]
  rw [h]
  exact Nat.mul_le_mul_right _ (by omega)
theorem pos_mul {k a : Nat} (h : 0 < k) : a ≤ k * a := Nat.le_mul_of_pos_left a h
structure ManyAt (T : List UInt8) (k : Nat) (l o : List UInt8) : Prop where
  tot : o ++ rep k l = T
  bd : o.length + k * l.length ≤ 1048576
  len : l.length ≤ 2097152
theorem ManyAt.step {T : List UInt8} {k : Nat} {l o : List UInt8} (h : ManyAt T k l o) (hk : 0 < k) : ManyAt T (k / 2) (l ++ l) (if k % 2 = 1 then o ++ l else o) := by
  have h1 := h.bd
  have h2 := half_mul k l.length
  have h3 := pos_mul (a := l.length) hk
  by_cases hp : k % 2 = 1
  · rw [if_pos hp]
    have hk2 : k = 2 * (k / 2) + 1 := by omega
    refine ⟨?_, ?_, by rw [List.length_append]; omega⟩
    · rw [← h.tot, ← rep_even, List.append_assoc, ← rep_succ, ← hk2]
    · have h4 : k / 2 * (l.length + l.length) + l.length = k * l.length := by
        conv => rhs; rw [hk2]
        rw [Nat.add_mul, Nat.one_mul, Nat.mul_comm 2 (k / 2), Nat.mul_assoc, Nat.two_mul]
      rw [List.length_append, List.length_append]; omega
  · rw [if_neg hp]
    have hk2 : k = 2 * (k / 2) := by omega
    refine ⟨?_, by rw [List.length_append]; omega, by rw [List.length_append]; omega⟩
    rw [← h.tot, ← rep_even, ← hk2]
def RelMn (T : List UInt8) (s n o : Value) : Prop := ∃ (k : Nat) (l out : List UInt8), s = .string (bs l) ∧ n = .int .i64 k ∧ o = .string (bs out) ∧ k ≤ 1048576 ∧ ManyAt T k l out
set_option maxRecDepth 100000 in
set_option maxHeartbeats 1000000 in
theorem l9Many_any (s : ByteArray) (n : Nat) (w : World) (hn : n ≤ 1048576) (hb : n * s.size ≤ 1048576) (hs : s.size ≤ 1048576) :
    Calls Tryz.prog 87  #[.string s, .int .i64 n] w fun e w' => e = .returned (.string (bs (rep n s.data.toList))) ∧ w = w' := by
  have hlen := ba_len s
  have HM : Hid (ManyAt (rep n s.data.toList) n s.data.toList []) := ⟨by simp, by simp; omega, by omega⟩
  have HS : Hid (s = bs s.data.toList) := (bs_self s).symm
  generalize rep n s.data.toList = T at *
  clear hb
  go_enter Tryz.func87, Tryz.ntmps87
  go_wp2
  go_loop [0, 1, 5] (fun s n o => RelMn T s n o) (fun _ n _ => (intOf n).toNat)
  case atStart => exact ⟨n, s.data.toList, [], congrArg Value.string HS.out, rfl, rfl, hn, HM.out⟩
  case round =>
    clear HM HS
    obtain ⟨k, l, out, rfl, rfl, rfl, hk, hM⟩ := hrel
    have h1 := hM.bd
    have h2 := hM.len
    have hz1 := bs_size l
    have hz2 := bs_size out
    have HM := Lib.hid hM
    clear hM
    have h1' : out.length ≤ 1048576 := by omega
    clear h1
    by_cases hk0 : 0 < k
    · have hst := HM.out.step hk0
      by_cases hp : k % 2 = 1
      · rw [if_pos hp] at hst
        have HST := Lib.hid hst
        clear hst
        have hp' : (k : Int) % 2 = 1 := by omega
        clear hp
        go_wp2
        go_round
        case rel => exact ⟨k / 2, l ++ l, out ++ l, by rw [bs_app], by go_num, by rw [bs_app], by omega, HST.out⟩
        case measure => simp [intOf]; omega
      · rw [if_neg hp] at hst
        have HST := Lib.hid hst
        clear hst
        have hp' : ((k : Int) % 2 == 1) = false := by simp; omega
        clear hp
        go_wp2
        go_round
        case rel => exact ⟨k / 2, l ++ l, out, by rw [bs_app], by go_num, rfl, by omega, HST.out⟩
        case measure => simp [intOf]; omega
    · have e : k = 0 := by omega
      subst e
      have HT : Hid (out = T) := by have := HM.out.tot; rw [rep_zero, List.append_nil] at this; exact this
      go_wp2
      go_ret
      exact ⟨ret_str (by rw [HT.out]), rfl⟩
end Go.Proofs.YtekogcjdaolcbaaGreatDoor

/- Walks of the reference's functions that put bits into bytes. Conditions: all bytes are bits; the length is bounded. -/
namespace Go.Proofs.YtekogcjdaolcbaaGreatDoor
open Go Go.RowKit
def padL (l : List UInt8) : List UInt8 := l ++ List.replicate ((8 - l.length % 8) % 8) 48
theorem padL_length (l : List UInt8) : (padL l).length = 8 * ((l.length + 7) / 8) := by
  unfold padL; rw [List.length_append, List.length_replicate]; omega
theorem rep_one (n : Nat) (b : UInt8) : rep n [b] = List.replicate n b := by
  induction n with
  | zero => rfl
  | succ n ih => rw [rep_succ, ih]; rfl
theorem isBits_pad {l : List UInt8} (h : isBits l) : isBits (padL l) := h.app fun b hb => by rw [List.mem_replicate] at hb; rw [hb.2]; exact .inl rfl
set_option maxRecDepth 100000 in
set_option maxHeartbeats 1000000 in
theorem l1Pad_any (s : ByteArray) (w : World) (hs : s.size ≤ 1048576) :
    Calls Tryz.prog 110  #[.string s] w fun e w' => e = .returned (.string (bs (padL s.data.toList))) ∧ w = w' := by
  have hlen := ba_len s
  have cM := fun w => l9Many_any ⟨#[48]⟩ ((8 - s.size % 8) % 8) w (by omega) (by show _ * 1 ≤ _; omega) (by show 1 ≤ _; omega)
  have e1 : (⟨#[48]⟩ : ByteArray).data.toList = [48] := rfl
  rw [e1, rep_one] at cM
  have hz := bs_size (List.replicate ((8 - s.size % 8) % 8) 48)
  rw [List.length_replicate] at hz
  have HR : Hid (s ++ bs (List.replicate ((8 - s.size % 8) % 8) 48) = bs (padL s.data.toList)) := by
    unfold Hid padL
    rw [hlen, ← bs_app, bs_self]
  have hk : (8 - s.size % 8) % 8 ≤ 7 := by omega
  have hkk : ((8 : Int) - (s.size : Int) % 8) % 8 = ((8 - s.size % 8) % 8 : Nat) := by omega
  generalize (8 - s.size % 8) % 8 = k at *
  clear e1
  go_enter Tryz.func110, Tryz.ntmps110
  go_wp2_with ((go_at_call 87; (with_reducible refine (cM _).mono ?_); rintro e w' ⟨rfl, rfl⟩))
  go_ret
  exact ⟨ret_str (by rw [HR.out]), rfl⟩
def byteN (o : Int) (l : List UInt8) (i : Nat) : UInt8 := ub (numL o ((l.drop (8 * i)).take 8))
def packL (o : Int) (l : List UInt8) : List UInt8 := (List.range ((padL l).length / 8)).map (byteN o (padL l))
theorem packL_length (o : Int) (l : List UInt8) : (packL o l).length = (l.length + 7) / 8 := by unfold packL; rw [List.length_map, List.length_range, padL_length]; omega
def midU (l : List UInt8) (k : Nat) : List UInt8 := l.take k ++ List.replicate (l.length - k) 0
theorem midU_zero (l : List UInt8) : midU l 0 = List.replicate l.length 0 := by simp [midU]
theorem midU_all (l : List UInt8) : midU l l.length = l := by simp [midU]
theorem midU_set (l : List UInt8) (k : Nat) (h : k < l.length) : (midU l k).set k l[k] = midU l (k + 1) := by
  have e : List.replicate (l.length - k) (0 : UInt8) = 0 :: List.replicate (l.length - (k + 1)) 0 := by
    rw [show l.length - k = (l.length - (k + 1)) + 1 by omega]; rfl
  unfold midU
  have e2 : k - (l.take k).length = 0 := by rw [List.length_take]; omega
  rw [e, List.take_succ_eq_append_getElem h, List.set_append_right _ _ (by rw [List.length_take]; omega), e2, List.set_cons_zero, List.append_assoc]
  rfl
theorem midU_at (l : List UInt8) (k : Nat) (h : k < l.length) : (midU l k)[k]? = some 0 := by
  unfold midU
  rw [List.getElem?_append_right (by rw [List.length_take]; omega), List.getElem?_replicate, if_pos (by rw [List.length_take]; omega)]
theorem bs_pad8 (l : List UInt8) (i : Nat) : (bs l).extract (8 * i) (8 * i + 8) = bs ((l.drop (8 * i)).take 8) := by rw [bs_ext, show 8 * i + 8 - 8 * i = 8 by omega]
def RelPk (l : List UInt8) (w : World) (i : Value) (wr : World) : Prop := ∃ k : Nat, k ≤ l.length ∧ i = .int .i64 k ∧ Up w wr ∧ wr.ownsRow w.heap.size 5 1 (.slice (some ⟨w.heap.size, 0, none⟩) l.length l.length) l.length (cellsU (midU l k))
theorem made_list (n : Nat) : (madeCells #[Value.int .u8 0] n).toList.take n = List.replicate n (Value.int .u8 0) := by
  apply List.ext_getElem
  · simp [madeCells]
  · intro i h1 h2
    simp [madeCells, Nat.mod_one]
theorem made_bytes (w : World) (n : Nat) (hn : n ≤ maxLen) : (w.alloc (.cells (madeCells #[.int .u8 0] n) 5)).ownsRow w.heap.size 5 1 (.slice (some ⟨w.heap.size, 0, none⟩) n n) n (cellsU (List.replicate n 0)) := by
  refine ⟨by simp [cellsU], .inr ⟨w.heap.size, n, _, rfl, Nat.le_refl _, (MapKept.heap_alloc w _).1, Nat.le_refl _, hn, ?_, ?_⟩⟩
  · simp [madeCells]
  · rw [Nat.mul_one, made_list]; simp [cellsU]
set_option maxRecDepth 100000 in
set_option maxHeartbeats 2000000 in
theorem l1Pack_any (o : Int) (s : ByteArray) (w : World) (hb : isBits s.data.toList) (hs : s.size ≤ 1048576) :
    Calls Tryz.prog 47  #[.int .i64 o, .string s] w (Same (.string (bs (packL o s.data.toList))) w) := by
  obtain ⟨i0, hi0, hz0, hz1, hz2⟩ := info_parts infoByte
  have hmk : ∀ (w : World) (n : Nat), n ≤ 1048576 → (Instr.makeSlice 22 (.int .i64 (n : Int)) (.int .i64 (n : Int))).run Tryz.prog w = .ok (.slice (some ⟨w.heap.size, 0, none⟩) n n) (w.alloc (.cells (madeCells #[.int .u8 0] n) 5)) := fun w n hn => by
    have := run_make (P := Tryz.prog) w 22 5 i0 _ Tryz.underlying22 hi0 hz0 .i64 .i64 n n (by omega) (Int.le_refl _) (by rw [hz2]; omega) (by omega)
    rw [hz1] at this
    simpa [Value.cells] using this
  clear hz0 hz1 hz2 hi0
  have hlen := ba_len s
  have cP := fun w => l1Pad_any s w hs
  have hpl := padL_length s.data.toList
  have hpb := isBits_pad hb
  have hkl := packL_length o s.data.toList
  have hget : ∀ i (h : i < (packL o s.data.toList).length), (packL o s.data.toList)[i] = byteN o (padL s.data.toList) i := fun i h => by simp [packL]
  rw [hlen] at hpl hkl
  have hz := bs_size (padL s.data.toList)
  have HB := Lib.hid hpb
  have HG := Lib.hid hget
  clear hb hpb hget
  generalize packL o s.data.toList = pk at *
  generalize padL s.data.toList = pd at *
  have hpk : pd.length = 8 * pk.length := by omega
  have hkl' : ((pk.length : Nat) : Int) = ((s.size : Int) + 7) / 8 := by omega
  have hmk' := fun w => hmk w pk.length (by omega)
  rw [hkl'] at hmk'
  clear hmk hpl
  go_enter Tryz.func47, Tryz.ntmps47
  go_wp2_with ((go_at_call 110; (with_reducible refine (cP _).mono ?_); rintro e w' ⟨rfl, rfl⟩))
  have hkn : pk.length = (s.size + 7) / 8 := hkl
  rw [← hkn]
  have hpk2 : pk.length ≤ 131072 := by omega
  clear hkn hkl hkl' hmk' hlen
  go_loopw [7] (fun i wr => RelPk pk w i wr) (fun i _ => pk.length - (intOf i).toNat)
  case atStart => exact ⟨0, Nat.zero_le _, rfl, (Up.refl _).alloc _, by rw [midU_zero]; exact made_bytes w _ (by unfold maxLen; omega)⟩
  case round =>
    obtain ⟨j, hj, rfl, hup, ho⟩ := hrel
    by_cases hlt : j < pk.length
    · have hrl : w.heap.size < wr.heap.size := (ho.lt _ rfl).2
      have d0 := ownsRow_cell ho (cellsU_at (midU_at pk j hlt))
      have f0 := ownsRow_free ho j
      have hb8 : isBits ((pd.drop (8 * j)).take 8) := (HB.out.drop _).take _
      have hl8 : ((pd.drop (8 * j)).take 8).length = 8 := by rw [List.length_take, List.length_drop]; omega
      have HE : Hid ((bs pd).extract (8 * j) (8 * j + 8) = bs ((pd.drop (8 * j)).take 8)) := bs_pad8 pd j
      have cN := fun w => l1Number_any o (bs ((pd.drop (8 * j)).take 8)) w (by rw [bs_data]; exact hb8) (by rw [bs_size, hl8]; omega)
      rw [bs_data, ← HE.out] at cN
      have hnb := numL_bd (o := o) hb8
      rw [hl8] at hnb
      have hn1 := hnb.1
      have hn2 : numL o ((pd.drop (8 * j)).take 8) < 256 := by have := hnb.2; simpa using this
      have HPK : Hid (((pk[j]).toNat : Int) = numL o ((pd.drop (8 * j)).take 8)) := by unfold Hid; rw [HG.out j hlt]; exact ub_nat hn1 hn2
      have HS := Lib.hid (midU_set pk j hlt)
      clear hb8 hnb hl8
      generalize numL o ((pd.drop (8 * j)).take 8) = nm at *
      go_wp2_with ((go_at_call 111; (with_reducible refine (cN _).mono ?_); rintro e w' ⟨rfl, rfl⟩))
      go_roundw
      case rel => exact ⟨j + 1, by omega, by go_num, hup.set (p := ⟨w.heap.size, j, none⟩) (Nat.le_refl _) _, by rw [← HS.out, ← cellsU_set, HPK.out]; exact ownsRow_set ho j _⟩
      case measure => simp [intOf]; omega
    · have e : j = pk.length := by omega
      subst e
      rw [midU_all] at ho
      have hconv := conv_row ho rfl
      go_wp2
      go_ret
      exact ⟨rfl, hup⟩
end Go.Proofs.YtekogcjdaolcbaaGreatDoor

/- Walk of the reference's l2Pack. Conditions: what is known is valid (KnD.Ok) and can be read; each code has a width. -/
namespace Go.Proofs.YtekogcjdaolcbaaGreatDoor
open Go Go.RowKit
def packC (o : Int) : List Int → List Int → List UInt8
  | x :: xs, w :: ws => codeL o x.toNat w.toNat ++ packC o xs ws
  | _, _ => []
theorem isBits_packC (o : Int) : ∀ (xs ws : List Int), isBits (packC o xs ws)
  | [], ws => by simp [packC, isBits]
  | _ :: _, [] => by simp [packC, isBits]
  | x :: xs, w :: ws => by simp only [packC]; exact (isBits_code _ _ _).app (isBits_packC o xs ws)
structure PkAt (k : KnD) (v : Value) (codes ws : List Int) (vw : Value) (w : World) (i : Nat) (out : Value) (wr : World) : Prop where
  le : i ≤ codes.length
  kn : KnAt w.heap.size k v wr
  wid : ownI wr (w.heap.size + 1) vw ws
  own : ownU wr (w.heap.size + 1) out (packC k.set.ord (codes.take i) (ws.take i))
  up : Up w wr
theorem RdI.at {lo : Nat} {w : World} {a : Option Addr} {n c : Nat} {l : List Int} (h : RdI lo w (.slice a n c) l) {i : Nat} (hi : i < l.length) : ∃ b off, a = some ⟨b, off, none⟩ ∧ b < w.heap.size ∧ w.cell? ⟨b, off + i, none⟩ = some (.int .i64 l[i]) ∧ n = l.length ∧ n ≤ c ∧ c ≤ maxLen ∧ lo ≤ b := by
  obtain ⟨a', c', e, h1, h2, h3⟩ := h
  cases e
  obtain ⟨b, off, e1, e2, e3, e4⟩ := h3 (by omega)
  exact ⟨b, off, e1, e3, e4 i _ (List.getElem?_eq_getElem hi), rfl, h1, h2, e2⟩
end Go.Proofs.YtekogcjdaolcbaaGreatDoor

