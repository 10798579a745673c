/- Texts joined into one: the walks and laws that the last text leans on. Conditions: as each says. -/
import Derived.Test.YtgbakgaegldomaaGreatMFnWriterKnownLawI
import Derived.Test.YtgbakgaegldomaaGreatMFnWriterKnownLawJ
import Derived.Lib.AppendStr
import Derived.Test.YtgbakgaegldomaaGreatMFnWriterKnownLawD
import Derived.Test.YtgbakgaegldomaaGreatMFnWriterKnownLawE

set_option linter.unusedVariables false
set_option linter.unusedSimpArgs false
/- Walk of the reference's l2Walk. Conditions: what is known is valid (KnD.Ok) and can be read; the codes can be read. -/
namespace Go.Proofs.YtgbakgaegldomaaGreat
open Go Go.RowKit
theorem conv_any {w : World} {base : Nat} {a : Option Addr} {n c : Nat} {l : List UInt8} (h : w.ownsRow base 5 1 (.slice a n c) n (cellsU l)) (hn : n = l.length) : (convert 22 9 (.slice a n c)).run Tryz.prog w = .ok (.string (bs l)) w := by
  rcases h.2 with ⟨h1, h2⟩ | ⟨g, cap, cur, h1, _⟩
  · cases h1
    have hl : l = [] := List.length_eq_zero_iff.1 hn.symm
    subst hl
    exact run_convert_bytes_nil (P := Tryz.prog) w 22 5 Tryz.underlying22 Tryz.underlying5 0 0 9 Tryz.underlying9
  · cases h1
    exact conv_row h hn
theorem ownI_snoc {w : World} {base : Nat} {v : Value} {ws : List Int} {x : Int} (h : w.ownsRow base 3 1 v (ws.length + 1) (cellsI ws ++ [.int .i64 x])) : ownI w base v (ws ++ [x]) := by
  rw [← cellsI_snoc] at h
  have e : (ws ++ [x]).length = ws.length + 1 := by simp
  unfold ownI
  rw [e]
  exact h
def RdI (lo : Nat) (w : World) (v : Value) (l : List Int) : Prop := ∃ a cap, v = .slice a l.length cap ∧ l.length ≤ cap ∧ cap ≤ maxLen ∧
  (0 < l.length → ∃ b off, a = some ⟨b, off, none⟩ ∧ lo ≤ b ∧ b < w.heap.size ∧ ∀ i x, l[i]? = some x → w.cell? ⟨b, off + i, none⟩ = some (.int .i64 x))
theorem RdI.up {lo : Nat} {w w' : World} {v : Value} {l : List Int} (h : RdI lo w v l) (hu : Up w w') : RdI lo w' v l := by
  obtain ⟨a, cap, h1, h2, h2', h3⟩ := h
  refine ⟨a, cap, h1, h2, h2', fun hp => ?_⟩
  obtain ⟨b, off, e1, e2, e4, e5⟩ := h3 hp
  exact ⟨b, off, e1, e2, Nat.lt_of_lt_of_le e4 hu.size, fun i p hi => (hu.cell (p := ⟨b, _, none⟩) e4).trans (e5 i p hi)⟩
theorem RdI.of_own {w : World} {base : Nat} {v : Value} {l : List Int} (h : ownI w base v l) : RdI base w v l := by
  rcases ownsRow_read h with ⟨rfl, h2⟩ | ⟨g, cap, rfl, h1, h2, h3, h4, h5⟩
  · exact ⟨none, 0, by rw [h2], by omega, by unfold maxLen; omega, fun h => by omega⟩
  · refine ⟨some ⟨g, 0, none⟩, cap, rfl, h1, h2, fun _ => ⟨g, 0, rfl, h3, h4, fun i x hi => ?_⟩⟩
    rw [Nat.zero_add]
    refine h5 _ _ ?_
    simp [cellsI, hi]
structure WkR where
  ws : List Int
  data : List UInt8
  ok : Bool
def walkN : KnD → List Int → List Int → List UInt8 → WkR
  | _, [], ws, d => ⟨ws, d, decide (d.length ≤ 2000)⟩
  | k, x :: xs, ws, d =>
    if x = (k.c : Int) + 1 then ⟨ws ++ [(k.width : Int)], d, decide (xs = [])⟩
    else if x = (k.c : Int) then walkN k.cleared xs (ws ++ [(k.width : Int)]) d
    else if k.follows x = false ∨ 2000 < d.length then ⟨ws ++ [(k.width : Int)], [], false⟩
    else walkN (k.after x) xs (ws ++ [(k.width : Int)]) (d ++ k.any x)
theorem walkN_end {k : KnD} {x : Int} {xs ws : List Int} {d : List UInt8} (h : x = (k.c : Int) + 1) : walkN k (x :: xs) ws d = ⟨ws ++ [(k.width : Int)], d, decide (xs = [])⟩ := by rw [walkN, if_pos h]
theorem walkN_clear {k : KnD} {x : Int} {xs ws : List Int} {d : List UInt8} (h : x = (k.c : Int)) : walkN k (x :: xs) ws d = walkN k.cleared xs (ws ++ [(k.width : Int)]) d := by rw [walkN, if_neg (by omega), if_pos h]
theorem walkN_bad {k : KnD} {x : Int} {xs ws : List Int} {d : List UInt8} (h1 : x ≠ (k.c : Int) + 1) (h2 : x ≠ (k.c : Int)) (h : k.follows x = false ∨ 2000 < d.length) : walkN k (x :: xs) ws d = ⟨ws ++ [(k.width : Int)], [], false⟩ := by rw [walkN, if_neg h1, if_neg h2, if_pos h]
theorem walkN_word {k : KnD} {x : Int} {xs ws : List Int} {d : List UInt8} (h1 : x ≠ (k.c : Int) + 1) (h2 : x ≠ (k.c : Int)) (h : k.follows x = true) (h3 : d.length ≤ 2000) : walkN k (x :: xs) ws d = walkN (k.after x) xs (ws ++ [(k.width : Int)]) (d ++ k.any x) := by
  rw [walkN, if_neg h1, if_neg h2, if_neg (by rw [h]; simp; omega)]
structure WkAt (T : WkR) (codes : List Int) (lo : Nat) (w : World) (k : KnD) (v : Value) (i : Nat) (ws : List Int) (d : List UInt8) (vw vd : Value) (wr : World) : Prop where
  le : i ≤ codes.length
  tot : walkN k (codes.drop i) ws d = T
  wl : ws.length = i
  dl : d.length ≤ 3024
  ok : k.Ok
  kn : KnAt w.heap.size k v wr
  pr : RdP lo w v k.ps ∨ ownPr wr (w.heap.size + 2) v k.ps
  own : ownI wr (w.heap.size + 2) vw ws
  dat : ownU wr (w.heap.size + 2) vd d
  res : KnAt (w.heap.size + 1) ⟨⟨0, 0, 0⟩, [], 0, 0⟩ (.slice none 0 0) wr
  up : Up w wr
def RelWk (T : WkR) (codes : List Int) (lo : Nat) (w : World) (vw vd i : Value) (wr : World) : Prop := ∃ k v n ws d, i = .int .i64 (n : Nat) ∧ WkAt T codes lo w k v n ws d vw vd wr
theorem WkAt.rd {T : WkR} {codes : List Int} {lo : Nat} {w : World} {k : KnD} {v : Value} {i : Nat} {ws : List Int} {d : List UInt8} {vw vd : Value} {wr : World} (h : WkAt T codes lo w k v i ws d vw vd wr) : RdP 0 wr v k.ps := by
  rcases h.pr with h1 | h1
  · exact (h1.up h.up).low (Nat.zero_le _)
  · exact (RdP.of_own h1).low (Nat.zero_le _)
structure WkB (codes : List Int) (lo : Nat) (w : World) (k : KnD) (v : Value) (ws : List Int) (d : List UInt8) (vw vd : Value) (wr : World) : Prop where
  kn : KnAt w.heap.size k v wr
  pr : RdP lo w v k.ps ∨ ownPr wr (w.heap.size + 2) v k.ps
  own : ownI wr (w.heap.size + 2) vw ws
  dat : ownU wr (w.heap.size + 2) vd d
  res : KnAt (w.heap.size + 1) ⟨⟨0, 0, 0⟩, [], 0, 0⟩ (.slice none 0 0) wr
  up : Up w wr
theorem WkB.upd {codes : List Int} {lo : Nat} {w : World} {k : KnD} {v : Value} {ws : List Int} {d : List UInt8} {vw vd : Value} {wr w' : World} (h : WkB codes lo w k v ws d vw vd wr) (hu : Up wr w') : WkB codes lo w k v ws d vw vd w' :=
  ⟨h.kn.up hu, h.pr.imp id fun h => ownsRow_up h hu, ownsRow_up h.own hu, ownsRow_up h.dat hu, h.res.up hu, h.up.trans hu⟩
theorem WkB.rd {codes : List Int} {lo : Nat} {w : World} {k : KnD} {v : Value} {ws : List Int} {d : List UInt8} {vw vd : Value} {wr : World} (h : WkB codes lo w k v ws d vw vd wr) : RdP 0 wr v k.ps := by
  rcases h.pr with h1 | h1
  · exact (h1.up h.up).low (Nat.zero_le _)
  · exact (RdP.of_own h1).low (Nat.zero_le _)
theorem low_ne {w wr : World} {base : Nat} {e : TypeId} {size n : Nat} {v : Value} {xs : List Value} (h : wr.ownsRow base e size v n xs) {b : Nat} (hb : b < base) : some b ≠ v.ownBlock := fun e => by have := (h.lt _ e.symm).1; omega
theorem low_ne' {w wr : World} {base : Nat} {e : TypeId} {size n : Nat} {v : Value} {xs : List Value} (h : wr.ownsRow base e size v n xs) {b : Nat} (hb : b < base) : v.ownBlock = none ∨ v.ownBlock ≠ some b := by
  cases hv : v.ownBlock with
  | none => exact .inl rfl
  | some g => exact .inr fun e => by have := (h.lt g hv).1; cases e; omega
theorem up_grown' {a w w' : World} (h : Up a w) {b : Nat} (hg : w.grownBy w' (some b)) (hb : a.heap.size ≤ b) : Up a w' := Below.grown h hg h.size (fun k hk => by cases hk; exact hb)
theorem WkB.bytes {codes : List Int} {lo : Nat} {w : World} {k : KnD} {v : Value} {ws : List Int} {d d' : List UInt8} {vw vd vd' : Value} {wr w' : World} (h : WkB codes lo w k v ws d vw vd wr) (hg : wr.grownBy w' vd.ownBlock) (hn : ownU w' (w.heap.size + 2) vd' d') : WkB codes lo w k v ws d' vw vd' w' :=
  ⟨h.kn.gr hg (low_ne (w := w) h.dat (by omega)), h.pr.imp id fun h1 => h1.kept hg (rows_ne h1 h.dat (by decide)), h.own.kept hg (rows_ne h.own h.dat (by decide)), hn, h.res.gr hg (low_ne (w := w) h.dat (by omega)), h.up.grown hg fun y hy => by have := (h.dat.lt y hy).1; omega⟩
theorem WkAt.b {T : WkR} {codes : List Int} {lo : Nat} {w : World} {k : KnD} {v : Value} {i : Nat} {ws : List Int} {d : List UInt8} {vw vd : Value} {wr : World} (h : WkAt T codes lo w k v i ws d vw vd wr) : WkB codes lo w k v ws d vw vd wr := ⟨h.kn, h.pr, h.own, h.dat, h.res, h.up⟩
theorem strCells_bs (l : List UInt8) : Lib.strCells (bs l) = cellsU l := by simp [Lib.strCells, cellsU, bs_data]
theorem gAt_append_str {o : Oper} {a : Act} {w : World} (sl x : Operand) (ho : o.op = .call { callee := .builtin .append, args := #[sl, x], argTypes := #[22, 9] })
    (base : Nat) (v : Value) (d l : List UInt8) (hs : a.eval sl = v) (hown : ownU w base v d) (hx : a.eval x = .string (bs l)) (h1 : d.length ≤ 1048576) (h2 : l.length ≤ 1048576) (hbase : base ≤ w.heap.size) (row : Option Nat) (hrow : v.ownBlock = row) :
    gAt Tryz.prog (fun w w' => w.grownBy w' row) o a w (fun v' w' => ownU w' base v' (d ++ l)) := by
  obtain ⟨j0, hj, hy0, hy1, hy2⟩ := info_parts infoByte
  have hz := bs_size l
  obtain ⟨v', w', hr, g2, g3, g4⟩ := Lib.run_append_own_string (P := Tryz.prog) w base 22 9 o.type 5 j0 Tryz.underlying22 Tryz.underlying9 hj hy0 hy1 hy2 v d.length (cellsU d) hown (bs l) (by rw [hz]; unfold maxLen; omega) (by rw [hz]; omega) hbase
  unfold gAt execOp
  simp only [ho, resolve, invoke, builtin, Sem.run_bind, Sem.run_pure, Result.andThen_ok, List.map_toArray, List.map_cons, List.map_nil, hs, hx, hr]
  refine ⟨hrow ▸ g3, ?_⟩
  rw [strCells_bs, ← cellsU_app, hz] at g2
  unfold ownU
  rw [List.length_append]
  exact g2
end Go.Proofs.YtgbakgaegldomaaGreat

/- Walks of the reference's draws of settings and data. Conditions: the reader is one (Rdr), its place is bounded. -/
namespace Go.Proofs.YtgbakgaegldomaaGreat
open Go Go.RowKit
def isSet (v : Value) : Prop := ∃ s : SetD, v = setV s ∧ setOk s = true
set_option maxRecDepth 100000 in
set_option maxHeartbeats 4000000 in
theorem l1Some_any (rb : Nat) (B : Value) (w : World) (N : Nat) (h : Rdr rb B w N) (hN : N ≤ 1000000000) :
    Calls Tryz.prog 64  #[.pointer (some ⟨rb, 0, none⟩)] w (Drawn rb B 5 isSet w) := by
  have hlt := h.lt
  have HR := Lib.hid h
  have hne0 : ¬ w.heap.size = rb := by omega
  have hU := RdUp.refl rb B 0 w
  have e1 : w.heap.size < w.heap.size + 1 := by omega
  have e2 : w.heap.size < w.heap.size + 1 + 1 := by omega
  go_enter Tryz.func64, Tryz.ntmps64
  go_wp2_with (first | (go_at_call 68; ((with_reducible refine (num_at ([2, 3, 2, 1, 8, 5]) HR.out hU (by intro c hU; (repeat (first | with_reducible assumption | refine RdUp.ups ?_ (by with_reducible assumption) | with_reducible refine RdUp.set ?_ (by first | exact Nat.le_refl _ | (simp only []; omega) | (simp; omega)) _ | with_reducible refine RdUp.alloc ?_ _ | with_reducible refine RdUp.drew ?_ | with_reducible exact RdUp.of (Up.refl _)))) (by omega) (by first | rfl | (simp; done) | fail) (by first | rfl | (simp; done) | fail) (by first | rfl | (simp; done) | fail) (by simp) (by simp) (by first | rfl | (simp; done) | fail)).mono ?_); rintro e w' ⟨i, rfl, hi, hU, U⟩; have D := gcell U.1; have Z := U.1.size; (try simp at Z); (try have Y0 : w.heap.size < w'.heap.size := (by omega)); (try have Y1 : w.heap.size + 1 < w'.heap.size := (by omega)); (try have Y2 : w.heap.size + 1 + 1 < w'.heap.size := (by omega)); (try have X0 : w.heap.size < w'.heap.size + 1 := (by omega)); (try have X1 : w.heap.size + 1 < w'.heap.size + 1 := (by omega)); (try have X2 : w.heap.size + 1 + 1 < w'.heap.size + 1 := (by omega)); ((have hl1 : 1 ≤ i := (by simp at hi; omega)); (have hl2 : i ≤ 8 := (by simp at hi; omega)); clear hi))) | (go_at_call 28; ((with_reducible refine (pick_at HR.out hU (by intro c hU; (repeat (first | with_reducible assumption | refine RdUp.ups ?_ (by with_reducible assumption) | with_reducible refine RdUp.set ?_ (by first | exact Nat.le_refl _ | (simp only []; omega) | (simp; omega)) _ | with_reducible refine RdUp.alloc ?_ _ | with_reducible refine RdUp.drew ?_ | with_reducible exact RdUp.of (Up.refl _)))) (by omega)).mono ?_); rintro e w' ⟨i, rfl, hi0, hi1, hU, U⟩; have D := gcell U.1; have Z := U.1.size; (try simp at Z); (try have Y0 : w.heap.size < w'.heap.size := (by omega)); (try have Y1 : w.heap.size + 1 < w'.heap.size := (by omega)); (try have Y2 : w.heap.size + 1 + 1 < w'.heap.size := (by omega)); (try have X0 : w.heap.size < w'.heap.size + 1 := (by omega)); (try have X1 : w.heap.size + 1 < w'.heap.size + 1 := (by omega)); (try have X2 : w.heap.size + 1 + 1 < w'.heap.size + 1 := (by omega)))))
  all_goals
    have q0 : w'.cell? ⟨w.heap.size, 0, none⟩ = some (.int .i64 0) := by simp [go_sem, *]
    have q1 : w'.cell? ⟨w.heap.size, 1, none⟩ = some (.int .i64 0) := by simp [go_sem, *]
    have q2 : w'.cell? ⟨w.heap.size, 2, none⟩ = some (.int .i64 0) := by simp [go_sem, *]
    refine bodyPost_ret (v := _) (by simp [results, Tryz.results64, go_sem, q0, q1, q2]; rfl) rfl ?_
    refine ⟨_, rfl, ⟨⟨_, _, _⟩, rfl, ?_⟩, ?_⟩
    · simp [setOk, inB]; omega
    · exact RdUp.fin hU (by intro c hU; (repeat (first | with_reducible assumption | refine RdUp.ups ?_ (by with_reducible assumption) | with_reducible refine RdUp.set ?_ (by first | exact Nat.le_refl _ | (simp only []; omega) | (simp; omega)) _ | with_reducible refine RdUp.alloc ?_ _ | with_reducible refine RdUp.drew ?_ | with_reducible exact RdUp.of (Up.refl _)))) (by omega)
theorem make_u8 (n : Nat) (hn : n ≤ 1048576) (w : World) : (Instr.makeSlice 22 (.int .i64 0) (.int .i64 (n : Int))).run Tryz.prog w = .ok (.slice (some ⟨w.heap.size, 0, none⟩) 0 n) (w.alloc (.cells (madeCells #[.int .u8 0] n) 5)) := by
  obtain ⟨i0, hi0, hz0, hz1, hz2⟩ := info_parts infoByte
  have := run_make (P := Tryz.prog) w 22 5 i0 _ Tryz.underlying22 hi0 hz0 .i64 .i64 0 n (by omega) (by omega) (by rw [hz2]; omega) (by omega)
  rw [hz1] at this
  simpa [Value.cells] using this
theorem own_made0 {w : World} {base n : Nat} (hb : base ≤ w.heap.size) (hn : n ≤ maxLen) : ownU (w.alloc (.cells (madeCells #[.int .u8 0] n) 5)) base (.slice (some ⟨w.heap.size, 0, none⟩) 0 n) [] :=
  World.ownsRow_made w _ n hb hn (by simp [madeCells])
theorem own_rd {rb : Nat} {w w' : World} {base : Nat} {e : TypeId} {size n : Nat} {v : Value} {xs : List Value} (h : w.ownsRow base e size v n xs) (hb : rb < base) (hg : w.grownBy w' (some rb)) : w'.ownsRow base e size v n xs :=
  h.kept hg (low_ne' (w := w) h hb)
theorem ownU_snocR {w : World} {base : Nat} {v : Value} {l : List UInt8} {y : Int} (h : w.ownsRow base 5 1 v (l.length + 1) (cellsU l ++ [.int .u8 y])) (h0 : 0 ≤ y) (h1 : y < 256) : ownU w base v (l ++ [ub y]) := by
  have e : (l ++ [ub y]).length = l.length + 1 := by simp
  unfold ownU
  rw [e, cellsU_snoc, ub_nat h0 h1]
  exact h
theorem row_ge {w : World} {base : Nat} {e : TypeId} {size n : Nat} {v : Value} {xs : List Value} (h : w.ownsRow base e size v n xs) : ∀ k, v.ownBlock = some k → base ≤ k := fun k hk => (h.lt k hk).1
end Go.Proofs.YtgbakgaegldomaaGreat

