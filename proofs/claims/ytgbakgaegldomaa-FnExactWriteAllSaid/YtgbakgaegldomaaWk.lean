/- Walk of the reference's l2Walk. Conditions: what is known is valid (KnD.Ok) and can be read; the codes can be read. -/
import Derived.Test.YtgbakgaegldomaaStep
import Derived.Test.YtgbakgaegldomaaIn
import Derived.Lib.AppendStr
namespace Go.Proofs.Ytgbakgaegldomaa
set_option linter.unusedVariables false
set_option linter.unusedSimpArgs false
open Go Go.RowKit

theorem conv_any {w : World} {base : Nat} {a : Option Addr} {n c : Nat} {l : List UInt8} (h : w.ownsRow base 5 1 (.slice a n c) n (cellsU l)) (hn : n = l.length) : (convert 42 9 (.slice a n c)).run Try.prog w = .ok (.string (bs l)) w := by
  rcases h.2 with ⟨h1, h2⟩ | ⟨g, cap, cur, h1, _⟩
  · cases h1
    have hl : l = [] := List.length_eq_zero_iff.1 hn.symm
    subst hl
    exact run_convert_bytes_nil (P := Try.prog) w 42 5 Try.underlying42 Try.underlying5 0 0 9 Try.underlying9
  · cases h1
    exact conv_row h hn
theorem ownI_snoc {w : World} {base : Nat} {v : Value} {ws : List Int} {x : Int} (h : w.ownsRow base 3 1 v (ws.length + 1) (cellsI ws ++ [.int .i64 x])) : ownI w base v (ws ++ [x]) := by
  rw [← cellsI_snoc] at h
  have e : (ws ++ [x]).length = ws.length + 1 := by simp
  unfold ownI
  rw [e]
  exact h
theorem ownI_len {w : World} {base : Nat} {a : Option Addr} {n c : Nat} {l : List Int} (h : ownI w base (.slice a n c) l) : ownI w base (.slice a n c) l := h
/-- A slice of integers that can be read, from the block lo on. -/
def RdI (lo : Nat) (w : World) (v : Value) (l : List Int) : Prop := ∃ a cap, v = .slice a l.length cap ∧ l.length ≤ cap ∧ cap ≤ maxLen ∧
  (0 < l.length → ∃ b off, a = some ⟨b, off, none⟩ ∧ lo ≤ b ∧ b < w.heap.size ∧ ∀ i x, l[i]? = some x → w.cell? ⟨b, off + i, none⟩ = some (.int .i64 x))
theorem RdI.up {lo : Nat} {w w' : World} {v : Value} {l : List Int} (h : RdI lo w v l) (hu : Up w w') : RdI lo w' v l := by
  obtain ⟨a, cap, h1, h2, h2', h3⟩ := h
  refine ⟨a, cap, h1, h2, h2', fun hp => ?_⟩
  obtain ⟨b, off, e1, e2, e4, e5⟩ := h3 hp
  exact ⟨b, off, e1, e2, Nat.lt_of_lt_of_le e4 hu.size, fun i p hi => (hu.cell (p := ⟨b, _, none⟩) e4).trans (e5 i p hi)⟩
theorem RdI.of_own {w : World} {base : Nat} {v : Value} {l : List Int} (h : ownI w base v l) : RdI base w v l := by
  rcases ownsRow_read h with ⟨rfl, h2⟩ | ⟨g, cap, rfl, h1, h2, h3, h4, h5⟩
  · exact ⟨none, 0, by rw [h2], by omega, by unfold maxLen; omega, fun h => by omega⟩
  · refine ⟨some ⟨g, 0, none⟩, cap, rfl, h1, h2, fun _ => ⟨g, 0, rfl, h3, h4, fun i x hi => ?_⟩⟩
    rw [Nat.zero_add]
    refine h5 _ _ ?_
    simp [cellsI, hi]

/-- What following codes gives: the widths, the data, whether all can follow. -/
structure WkR where
  ws : List Int
  data : List UInt8
  ok : Bool
def walkN : KnD → List Int → List Int → List UInt8 → WkR
  | _, [], ws, d => ⟨ws, d, decide (d.length ≤ 2000)⟩
  | k, x :: xs, ws, d =>
    if x = (k.c : Int) + 1 then ⟨ws ++ [(k.width : Int)], d, decide (xs = [])⟩
    else if x = (k.c : Int) then walkN k.cleared xs (ws ++ [(k.width : Int)]) d
    else if k.follows x = false ∨ 2000 < d.length then ⟨ws ++ [(k.width : Int)], [], false⟩
    else walkN (k.after x) xs (ws ++ [(k.width : Int)]) (d ++ k.any x)
theorem walkN_end {k : KnD} {x : Int} {xs ws : List Int} {d : List UInt8} (h : x = (k.c : Int) + 1) : walkN k (x :: xs) ws d = ⟨ws ++ [(k.width : Int)], d, decide (xs = [])⟩ := by rw [walkN, if_pos h]
theorem walkN_clear {k : KnD} {x : Int} {xs ws : List Int} {d : List UInt8} (h : x = (k.c : Int)) : walkN k (x :: xs) ws d = walkN k.cleared xs (ws ++ [(k.width : Int)]) d := by rw [walkN, if_neg (by omega), if_pos h]
theorem walkN_bad {k : KnD} {x : Int} {xs ws : List Int} {d : List UInt8} (h1 : x ≠ (k.c : Int) + 1) (h2 : x ≠ (k.c : Int)) (h : k.follows x = false ∨ 2000 < d.length) : walkN k (x :: xs) ws d = ⟨ws ++ [(k.width : Int)], [], false⟩ := by rw [walkN, if_neg h1, if_neg h2, if_pos h]
theorem walkN_word {k : KnD} {x : Int} {xs ws : List Int} {d : List UInt8} (h1 : x ≠ (k.c : Int) + 1) (h2 : x ≠ (k.c : Int)) (h : k.follows x = true) (h3 : d.length ≤ 2000) : walkN k (x :: xs) ws d = walkN (k.after x) xs (ws ++ [(k.width : Int)]) (d ++ k.any x) := by
  rw [walkN, if_neg h1, if_neg h2, if_neg (by rw [h]; simp; omega)]

structure WkAt (T : WkR) (codes : List Int) (lo : Nat) (w : World) (k : KnD) (v : Value) (i : Nat) (ws : List Int) (d : List UInt8) (vw vd : Value) (wr : World) : Prop where
  le : i ≤ codes.length
  tot : walkN k (codes.drop i) ws d = T
  wl : ws.length = i
  dl : d.length ≤ 3024
  ok : k.Ok
  kn : KnAt w.heap.size k v wr
  pr : RdP lo w v k.ps ∨ ownPr wr (w.heap.size + 2) v k.ps
  own : ownI wr (w.heap.size + 2) vw ws
  dat : ownU wr (w.heap.size + 2) vd d
  res : KnAt (w.heap.size + 1) ⟨⟨0, 0, 0⟩, [], 0, 0⟩ (.slice none 0 0) wr
  up : Up w wr
def RelWk (T : WkR) (codes : List Int) (lo : Nat) (w : World) (vw vd i : Value) (wr : World) : Prop := ∃ k v n ws d, i = .int .i64 (n : Nat) ∧ WkAt T codes lo w k v n ws d vw vd wr
theorem WkAt.rd {T : WkR} {codes : List Int} {lo : Nat} {w : World} {k : KnD} {v : Value} {i : Nat} {ws : List Int} {d : List UInt8} {vw vd : Value} {wr : World} (h : WkAt T codes lo w k v i ws d vw vd wr) : RdP 0 wr v k.ps := by
  rcases h.pr with h1 | h1
  · exact (h1.up h.up).low (Nat.zero_le _)
  · exact (RdP.of_own h1).low (Nat.zero_le _)
/-- Behind the append of a width. -/
structure WkB (codes : List Int) (lo : Nat) (w : World) (k : KnD) (v : Value) (ws : List Int) (d : List UInt8) (vw vd : Value) (wr : World) : Prop where
  kn : KnAt w.heap.size k v wr
  pr : RdP lo w v k.ps ∨ ownPr wr (w.heap.size + 2) v k.ps
  own : ownI wr (w.heap.size + 2) vw ws
  dat : ownU wr (w.heap.size + 2) vd d
  res : KnAt (w.heap.size + 1) ⟨⟨0, 0, 0⟩, [], 0, 0⟩ (.slice none 0 0) wr
  up : Up w wr
theorem WkB.upd {codes : List Int} {lo : Nat} {w : World} {k : KnD} {v : Value} {ws : List Int} {d : List UInt8} {vw vd : Value} {wr w' : World} (h : WkB codes lo w k v ws d vw vd wr) (hu : Up wr w') : WkB codes lo w k v ws d vw vd w' :=
  ⟨h.kn.up hu, h.pr.imp id fun h => ownsRow_up h hu, ownsRow_up h.own hu, ownsRow_up h.dat hu, h.res.up hu, h.up.trans hu⟩
theorem WkB.rd {codes : List Int} {lo : Nat} {w : World} {k : KnD} {v : Value} {ws : List Int} {d : List UInt8} {vw vd : Value} {wr : World} (h : WkB codes lo w k v ws d vw vd wr) : RdP 0 wr v k.ps := by
  rcases h.pr with h1 | h1
  · exact (h1.up h.up).low (Nat.zero_le _)
  · exact (RdP.of_own h1).low (Nat.zero_le _)
theorem low_ne {w wr : World} {base : Nat} {e : TypeId} {size n : Nat} {v : Value} {xs : List Value} (h : wr.ownsRow base e size v n xs) {b : Nat} (hb : b < base) : some b ≠ v.ownBlock := fun e => by have := (h.lt _ e.symm).1; omega
theorem low_ne' {w wr : World} {base : Nat} {e : TypeId} {size n : Nat} {v : Value} {xs : List Value} (h : wr.ownsRow base e size v n xs) {b : Nat} (hb : b < base) : v.ownBlock = none ∨ v.ownBlock ≠ some b := by
  cases hv : v.ownBlock with
  | none => exact .inl rfl
  | some g => exact .inr fun e => by have := (h.lt g hv).1; cases e; omega
theorem up_grown' {a w w' : World} (h : Up a w) {b : Nat} (hg : w.grownBy w' (some b)) (hb : a.heap.size ≤ b) : Up a w' := Below.grown h hg h.size (fun k hk => by cases hk; exact hb)
/-- A row of integers has grown. -/
theorem WkB.ints {codes : List Int} {lo : Nat} {w : World} {k : KnD} {v : Value} {ws ws' : List Int} {d : List UInt8} {vw vd vw' : Value} {wr w' : World} (h : WkB codes lo w k v ws d vw vd wr) (hg : wr.grownBy w' vw.ownBlock) (hn : ownI w' (w.heap.size + 2) vw' ws') : WkB codes lo w k v ws' d vw' vd w' :=
  ⟨h.kn.gr hg (low_ne (w := w) h.own (by omega)), h.pr.imp id fun h1 => h1.kept hg (rows_ne h1 h.own (by decide)), hn, h.dat.kept hg (rows_ne h.dat h.own (by decide)), h.res.gr hg (low_ne (w := w) h.own (by omega)), h.up.grown hg fun y hy => by have := (h.own.lt y hy).1; omega⟩
/-- The row of bytes has grown. -/
theorem WkB.bytes {codes : List Int} {lo : Nat} {w : World} {k : KnD} {v : Value} {ws : List Int} {d d' : List UInt8} {vw vd vd' : Value} {wr w' : World} (h : WkB codes lo w k v ws d vw vd wr) (hg : wr.grownBy w' vd.ownBlock) (hn : ownU w' (w.heap.size + 2) vd' d') : WkB codes lo w k v ws d' vw vd' w' :=
  ⟨h.kn.gr hg (low_ne (w := w) h.dat (by omega)), h.pr.imp id fun h1 => h1.kept hg (rows_ne h1 h.dat (by decide)), h.own.kept hg (rows_ne h.own h.dat (by decide)), hn, h.res.gr hg (low_ne (w := w) h.dat (by omega)), h.up.grown hg fun y hy => by have := (h.dat.lt y hy).1; omega⟩
/-- What is known has been stored. -/
theorem WkB.stored {codes : List Int} {lo : Nat} {w : World} {k k' : KnD} {v v' : Value} {ws : List Int} {d : List UInt8} {vw vd : Value} {wr : World} (h : WkB codes lo w k v ws d vw vd wr) (hp : ownPr wr (w.heap.size + 2) v' k'.ps) : WkB codes lo w k' v' ws d vw vd (KnW wr w.heap.size k' v') :=
  ⟨KnAt.store h.kn k' v', .inr (KnW.own hp (low_ne (w := w) hp (by omega)) k' v'), KnW.own h.own (low_ne (w := w) h.own (by omega)) k' v', KnW.own h.dat (low_ne (w := w) h.dat (by omega)) k' v', (KnW.other (by omega) k' v').trans h.res, KnW.up h.up (Nat.le_refl _) k' v'⟩
theorem WkAt.b {T : WkR} {codes : List Int} {lo : Nat} {w : World} {k : KnD} {v : Value} {i : Nat} {ws : List Int} {d : List UInt8} {vw vd : Value} {wr : World} (h : WkAt T codes lo w k v i ws d vw vd wr) : WkB codes lo w k v ws d vw vd wr := ⟨h.kn, h.pr, h.own, h.dat, h.res, h.up⟩
theorem WkB.at' {codes : List Int} {lo : Nat} {w : World} {k : KnD} {v : Value} {ws : List Int} {d : List UInt8} {vw vd : Value} {wr : World} (h : WkB codes lo w k v ws d vw vd wr) {T : WkR} {n : Nat} (hl : n < codes.length) (ht : walkN k (codes.drop (n + 1)) ws d = T) (hw : ws.length = n + 1) (hd : d.length ≤ 3024) (hk : k.Ok) : WkAt T codes lo w k v (n + 1) ws d vw vd wr :=
  ⟨hl, ht, hw, hd, hk, h.kn, h.pr, h.own, h.dat, h.res, h.up⟩
theorem WkB.upG {codes : List Int} {lo : Nat} {w : World} {k : KnD} {v : Value} {ws : List Int} {d : List UInt8} {vw vd : Value} {wr w' : World} (h : WkB codes lo w k v ws d vw vd wr) (hg : wr.grownBy w' vd.ownBlock) : Up w w' := h.up.grown hg fun y hy => by have := (h.dat.lt y hy).1; omega
theorem WkB.rdG {codes : List Int} {lo : Nat} {w : World} {k : KnD} {v : Value} {ws : List Int} {d : List UInt8} {vw vd : Value} {wr w' : World} (h : WkB codes lo w k v ws d vw vd wr) (hg : wr.grownBy w' vd.ownBlock) : RdP 0 w' v k.ps := by
  rcases h.pr with h1 | h1
  · exact (h1.up (h.upG hg)).low (Nat.zero_le _)
  · exact (RdP.of_own (h1.kept hg (rows_ne h1 h.dat (by decide)))).low (Nat.zero_le _)
theorem strCells_bs (l : List UInt8) : Lib.strCells (bs l) = cellsU l := by simp [Lib.strCells, cellsU, bs_data]
/-- An append of a string onto a row of bytes of the call's own. -/
theorem gAt_append_str {o : Oper} {a : Act} {w : World} (sl x : Operand) (ho : o.op = .call { callee := .builtin .append, args := #[sl, x], argTypes := #[42, 9] })
    (base : Nat) (v : Value) (d l : List UInt8) (hs : a.eval sl = v) (hown : ownU w base v d) (hx : a.eval x = .string (bs l)) (h1 : d.length ≤ 1048576) (h2 : l.length ≤ 1048576) (hbase : base ≤ w.heap.size) (row : Option Nat) (hrow : v.ownBlock = row) :
    gAt Try.prog (fun w w' => w.grownBy w' row) o a w (fun v' w' => ownU w' base v' (d ++ l)) := by
  obtain ⟨j0, hj, hy0, hy1, hy2⟩ := info_parts infoByte
  have hz := bs_size l
  obtain ⟨v', w', hr, g2, g3, g4⟩ := Lib.run_append_own_string (P := Try.prog) w base 42 9 o.type 5 j0 Try.underlying42 Try.underlying9 hj hy0 hy1 hy2 v d.length (cellsU d) hown (bs l) (by rw [hz]; unfold maxLen; omega) (by rw [hz]; omega) hbase
  unfold gAt execOp
  simp only [ho, resolve, invoke, builtin, Sem.run_bind, Sem.run_pure, Result.andThen_ok, List.map_toArray, List.map_cons, List.map_nil, hs, hx, hr]
  refine ⟨hrow ▸ g3, ?_⟩
  rw [strCells_bs, ← cellsU_app, hz] at g2
  unfold ownU
  rw [List.length_append]
  exact g2
def WkPost (T : WkR) (w : World) (e : Ending) (w' : World) : Prop := ∃ kv vw, e = .returned (.tuple #[kv, vw, .string (bs T.data), .bool T.ok]) ∧ (∃ k3 a n c, kv = kV k3 (.slice a n c)) ∧ ownI w' w.heap.size vw T.ws ∧ Up w w'

end Go.Proofs.Ytgbakgaegldomaa
