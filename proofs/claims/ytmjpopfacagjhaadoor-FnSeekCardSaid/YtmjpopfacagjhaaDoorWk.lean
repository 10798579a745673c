/- Walk of the reference's l2Walk. Conditions: what is known is valid (KnD.Ok) and can be read; the codes can be read. -/
import Derived.Test.YtmjpopfacagjhaaDoorStep
import Derived.Test.YtmjpopfacagjhaaDoorIn
import Derived.Lib.AppendStr
namespace Go.Proofs.YtmjpopfacagjhaaDoor
set_option linter.unusedVariables false
set_option linter.unusedSimpArgs false
open Go Go.RowKit

theorem conv_any {w : World} {base : Nat} {a : Option Addr} {n c : Nat} {l : List UInt8} (h : w.ownsRow base 5 1 (.slice a n c) n (cellsU l)) (hn : n = l.length) : (convert 29 9 (.slice a n c)).run Tryd.prog w = .ok (.string (bs l)) w := by
  rcases h.2 with ⟨h1, h2⟩ | ⟨g, cap, cur, h1, _⟩
  · cases h1
    have hl : l = [] := List.length_eq_zero_iff.1 hn.symm
    subst hl
    exact run_convert_bytes_nil (P := Tryd.prog) w 29 5 Tryd.underlying29 Tryd.underlying5 0 0 9 Tryd.underlying9
  · cases h1
    exact conv_row h hn
theorem ownI_snoc {w : World} {base : Nat} {v : Value} {ws : List Int} {x : Int} (h : w.ownsRow base 3 1 v (ws.length + 1) (cellsI ws ++ [.int .i64 x])) : ownI w base v (ws ++ [x]) := by
  rw [← cellsI_snoc] at h
  have e : (ws ++ [x]).length = ws.length + 1 := by simp
  unfold ownI
  rw [e]
  exact h
theorem ownI_len {w : World} {base : Nat} {a : Option Addr} {n c : Nat} {l : List Int} (h : ownI w base (.slice a n c) l) : ownI w base (.slice a n c) l := h
/-- A slice of integers that can be read, from the block lo on. -/
def RdI (lo : Nat) (w : World) (v : Value) (l : List Int) : Prop := ∃ a cap, v = .slice a l.length cap ∧ l.length ≤ cap ∧ cap ≤ maxLen ∧
  (0 < l.length → ∃ b off, a = some ⟨b, off, none⟩ ∧ lo ≤ b ∧ b < w.heap.size ∧ ∀ i x, l[i]? = some x → w.cell? ⟨b, off + i, none⟩ = some (.int .i64 x))
theorem RdI.up {lo : Nat} {w w' : World} {v : Value} {l : List Int} (h : RdI lo w v l) (hu : Up w w') : RdI lo w' v l := by
  obtain ⟨a, cap, h1, h2, h2', h3⟩ := h
  refine ⟨a, cap, h1, h2, h2', fun hp => ?_⟩
  obtain ⟨b, off, e1, e2, e4, e5⟩ := h3 hp
  exact ⟨b, off, e1, e2, Nat.lt_of_lt_of_le e4 hu.size, fun i p hi => (hu.cell (p := ⟨b, _, none⟩) e4).trans (e5 i p hi)⟩
theorem RdI.of_own {w : World} {base : Nat} {v : Value} {l : List Int} (h : ownI w base v l) : RdI base w v l := by
  rcases ownsRow_read h with ⟨rfl, h2⟩ | ⟨g, cap, rfl, h1, h2, h3, h4, h5⟩
  · exact ⟨none, 0, by rw [h2], by omega, by unfold maxLen; omega, fun h => by omega⟩
  · refine ⟨some ⟨g, 0, none⟩, cap, rfl, h1, h2, fun _ => ⟨g, 0, rfl, h3, h4, fun i x hi => ?_⟩⟩
    rw [Nat.zero_add]
    refine h5 _ _ ?_
    simp [cellsI, hi]

/-- What following codes gives: the widths, the data, whether all can follow. -/
structure WkR where
  ws : List Int
  data : List UInt8
  ok : Bool
def walkN : KnD → List Int → List Int → List UInt8 → WkR
  | _, [], ws, d => ⟨ws, d, decide (d.length ≤ 2000)⟩
  | k, x :: xs, ws, d =>
    if x = (k.c : Int) + 1 then ⟨ws ++ [(k.width : Int)], d, decide (xs = [])⟩
    else if x = (k.c : Int) then walkN k.cleared xs (ws ++ [(k.width : Int)]) d
    else if k.follows x = false ∨ 2000 < d.length then ⟨ws ++ [(k.width : Int)], [], false⟩
    else walkN (k.after x) xs (ws ++ [(k.width : Int)]) (d ++ k.any x)
theorem walkN_end {k : KnD} {x : Int} {xs ws : List Int} {d : List UInt8} (h : x = (k.c : Int) + 1) : walkN k (x :: xs) ws d = ⟨ws ++ [(k.width : Int)], d, decide (xs = [])⟩ := by rw [walkN, if_pos h]
theorem walkN_clear {k : KnD} {x : Int} {xs ws : List Int} {d : List UInt8} (h : x = (k.c : Int)) : walkN k (x :: xs) ws d = walkN k.cleared xs (ws ++ [(k.width : Int)]) d := by rw [walkN, if_neg (by omega), if_pos h]
theorem walkN_bad {k : KnD} {x : Int} {xs ws : List Int} {d : List UInt8} (h1 : x ≠ (k.c : Int) + 1) (h2 : x ≠ (k.c : Int)) (h : k.follows x = false ∨ 2000 < d.length) : walkN k (x :: xs) ws d = ⟨ws ++ [(k.width : Int)], [], false⟩ := by rw [walkN, if_neg h1, if_neg h2, if_pos h]
theorem walkN_word {k : KnD} {x : Int} {xs ws : List Int} {d : List UInt8} (h1 : x ≠ (k.c : Int) + 1) (h2 : x ≠ (k.c : Int)) (h : k.follows x = true) (h3 : d.length ≤ 2000) : walkN k (x :: xs) ws d = walkN (k.after x) xs (ws ++ [(k.width : Int)]) (d ++ k.any x) := by
  rw [walkN, if_neg h1, if_neg h2, if_neg (by rw [h]; simp; omega)]

structure WkAt (T : WkR) (codes : List Int) (lo : Nat) (w : World) (k : KnD) (v : Value) (i : Nat) (ws : List Int) (d : List UInt8) (vw vd : Value) (wr : World) : Prop where
  le : i ≤ codes.length
  tot : walkN k (codes.drop i) ws d = T
  wl : ws.length = i
  dl : d.length ≤ 3024
  ok : k.Ok
  kn : KnAt w.heap.size k v wr
  pr : RdP lo w v k.ps ∨ ownPr wr (w.heap.size + 2) v k.ps
  own : ownI wr (w.heap.size + 2) vw ws
  dat : ownU wr (w.heap.size + 2) vd d
  res : KnAt (w.heap.size + 1) ⟨⟨0, 0, 0⟩, [], 0, 0⟩ (.slice none 0 0) wr
  up : Up w wr
def RelWk (T : WkR) (codes : List Int) (lo : Nat) (w : World) (vw vd i : Value) (wr : World) : Prop := ∃ k v n ws d, i = .int .i64 (n : Nat) ∧ WkAt T codes lo w k v n ws d vw vd wr
theorem WkAt.rd {T : WkR} {codes : List Int} {lo : Nat} {w : World} {k : KnD} {v : Value} {i : Nat} {ws : List Int} {d : List UInt8} {vw vd : Value} {wr : World} (h : WkAt T codes lo w k v i ws d vw vd wr) : RdP 0 wr v k.ps := by
  rcases h.pr with h1 | h1
  · exact (h1.up h.up).low (Nat.zero_le _)
  · exact (RdP.of_own h1).low (Nat.zero_le _)
/-- Behind the append of a width. -/
structure WkB (codes : List Int) (lo : Nat) (w : World) (k : KnD) (v : Value) (ws : List Int) (d : List UInt8) (vw vd : Value) (wr : World) : Prop where
  kn : KnAt w.heap.size k v wr
  pr : RdP lo w v k.ps ∨ ownPr wr (w.heap.size + 2) v k.ps
  own : ownI wr (w.heap.size + 2) vw ws
  dat : ownU wr (w.heap.size + 2) vd d
  res : KnAt (w.heap.size + 1) ⟨⟨0, 0, 0⟩, [], 0, 0⟩ (.slice none 0 0) wr
  up : Up w wr
theorem WkB.upd {codes : List Int} {lo : Nat} {w : World} {k : KnD} {v : Value} {ws : List Int} {d : List UInt8} {vw vd : Value} {wr w' : World} (h : WkB codes lo w k v ws d vw vd wr) (hu : Up wr w') : WkB codes lo w k v ws d vw vd w' :=
  ⟨h.kn.up hu, h.pr.imp id fun h => ownsRow_up h hu, ownsRow_up h.own hu, ownsRow_up h.dat hu, h.res.up hu, h.up.trans hu⟩
theorem WkB.rd {codes : List Int} {lo : Nat} {w : World} {k : KnD} {v : Value} {ws : List Int} {d : List UInt8} {vw vd : Value} {wr : World} (h : WkB codes lo w k v ws d vw vd wr) : RdP 0 wr v k.ps := by
  rcases h.pr with h1 | h1
  · exact (h1.up h.up).low (Nat.zero_le _)
  · exact (RdP.of_own h1).low (Nat.zero_le _)
theorem low_ne {w wr : World} {base : Nat} {e : TypeId} {size n : Nat} {v : Value} {xs : List Value} (h : wr.ownsRow base e size v n xs) {b : Nat} (hb : b < base) : some b ≠ v.ownBlock := fun e => by have := (h.lt _ e.symm).1; omega
theorem low_ne' {w wr : World} {base : Nat} {e : TypeId} {size n : Nat} {v : Value} {xs : List Value} (h : wr.ownsRow base e size v n xs) {b : Nat} (hb : b < base) : v.ownBlock = none ∨ v.ownBlock ≠ some b := by
  cases hv : v.ownBlock with
  | none => exact .inl rfl
  | some g => exact .inr fun e => by have := (h.lt g hv).1; cases e; omega
theorem up_grown' {a w w' : World} (h : Up a w) {b : Nat} (hg : w.grownBy w' (some b)) (hb : a.heap.size ≤ b) : Up a w' := Below.grown h hg h.size (fun k hk => by cases hk; exact hb)
/-- A row of integers has grown. -/
theorem WkB.ints {codes : List Int} {lo : Nat} {w : World} {k : KnD} {v : Value} {ws ws' : List Int} {d : List UInt8} {vw vd vw' : Value} {wr w' : World} (h : WkB codes lo w k v ws d vw vd wr) (hg : wr.grownBy w' vw.ownBlock) (hn : ownI w' (w.heap.size + 2) vw' ws') : WkB codes lo w k v ws' d vw' vd w' :=
  ⟨h.kn.gr hg (low_ne (w := w) h.own (by omega)), h.pr.imp id fun h1 => h1.kept hg (rows_ne h1 h.own (by decide)), hn, h.dat.kept hg (rows_ne h.dat h.own (by decide)), h.res.gr hg (low_ne (w := w) h.own (by omega)), h.up.grown hg fun y hy => by have := (h.own.lt y hy).1; omega⟩
/-- The row of bytes has grown. -/
theorem WkB.bytes {codes : List Int} {lo : Nat} {w : World} {k : KnD} {v : Value} {ws : List Int} {d d' : List UInt8} {vw vd vd' : Value} {wr w' : World} (h : WkB codes lo w k v ws d vw vd wr) (hg : wr.grownBy w' vd.ownBlock) (hn : ownU w' (w.heap.size + 2) vd' d') : WkB codes lo w k v ws d' vw vd' w' :=
  ⟨h.kn.gr hg (low_ne (w := w) h.dat (by omega)), h.pr.imp id fun h1 => h1.kept hg (rows_ne h1 h.dat (by decide)), h.own.kept hg (rows_ne h.own h.dat (by decide)), hn, h.res.gr hg (low_ne (w := w) h.dat (by omega)), h.up.grown hg fun y hy => by have := (h.dat.lt y hy).1; omega⟩
/-- What is known has been stored. -/
theorem WkB.stored {codes : List Int} {lo : Nat} {w : World} {k k' : KnD} {v v' : Value} {ws : List Int} {d : List UInt8} {vw vd : Value} {wr : World} (h : WkB codes lo w k v ws d vw vd wr) (hp : ownPr wr (w.heap.size + 2) v' k'.ps) : WkB codes lo w k' v' ws d vw vd (KnW wr w.heap.size k' v') :=
  ⟨KnAt.store h.kn k' v', .inr (KnW.own hp (low_ne (w := w) hp (by omega)) k' v'), KnW.own h.own (low_ne (w := w) h.own (by omega)) k' v', KnW.own h.dat (low_ne (w := w) h.dat (by omega)) k' v', (KnW.other (by omega) k' v').trans h.res, KnW.up h.up (Nat.le_refl _) k' v'⟩
theorem WkAt.b {T : WkR} {codes : List Int} {lo : Nat} {w : World} {k : KnD} {v : Value} {i : Nat} {ws : List Int} {d : List UInt8} {vw vd : Value} {wr : World} (h : WkAt T codes lo w k v i ws d vw vd wr) : WkB codes lo w k v ws d vw vd wr := ⟨h.kn, h.pr, h.own, h.dat, h.res, h.up⟩
theorem WkB.at' {codes : List Int} {lo : Nat} {w : World} {k : KnD} {v : Value} {ws : List Int} {d : List UInt8} {vw vd : Value} {wr : World} (h : WkB codes lo w k v ws d vw vd wr) {T : WkR} {n : Nat} (hl : n < codes.length) (ht : walkN k (codes.drop (n + 1)) ws d = T) (hw : ws.length = n + 1) (hd : d.length ≤ 3024) (hk : k.Ok) : WkAt T codes lo w k v (n + 1) ws d vw vd wr :=
  ⟨hl, ht, hw, hd, hk, h.kn, h.pr, h.own, h.dat, h.res, h.up⟩
theorem WkB.upG {codes : List Int} {lo : Nat} {w : World} {k : KnD} {v : Value} {ws : List Int} {d : List UInt8} {vw vd : Value} {wr w' : World} (h : WkB codes lo w k v ws d vw vd wr) (hg : wr.grownBy w' vd.ownBlock) : Up w w' := h.up.grown hg fun y hy => by have := (h.dat.lt y hy).1; omega
theorem WkB.rdG {codes : List Int} {lo : Nat} {w : World} {k : KnD} {v : Value} {ws : List Int} {d : List UInt8} {vw vd : Value} {wr w' : World} (h : WkB codes lo w k v ws d vw vd wr) (hg : wr.grownBy w' vd.ownBlock) : RdP 0 w' v k.ps := by
  rcases h.pr with h1 | h1
  · exact (h1.up (h.upG hg)).low (Nat.zero_le _)
  · exact (RdP.of_own (h1.kept hg (rows_ne h1 h.dat (by decide)))).low (Nat.zero_le _)
theorem strCells_bs (l : List UInt8) : Lib.strCells (bs l) = cellsU l := by simp [Lib.strCells, cellsU, bs_data]
/-- An append of a string onto a row of bytes of the call's own. -/
theorem gAt_append_str {o : Oper} {a : Act} {w : World} (sl x : Operand) (ho : o.op = .call { callee := .builtin .append, args := #[sl, x], argTypes := #[29, 9] })
    (base : Nat) (v : Value) (d l : List UInt8) (hs : a.eval sl = v) (hown : ownU w base v d) (hx : a.eval x = .string (bs l)) (h1 : d.length ≤ 1048576) (h2 : l.length ≤ 1048576) (hbase : base ≤ w.heap.size) (row : Option Nat) (hrow : v.ownBlock = row) :
    gAt Tryd.prog (fun w w' => w.grownBy w' row) o a w (fun v' w' => ownU w' base v' (d ++ l)) := by
  obtain ⟨j0, hj, hy0, hy1, hy2⟩ := info_parts infoByte
  have hz := bs_size l
  obtain ⟨v', w', hr, g2, g3, g4⟩ := Lib.run_append_own_string (P := Tryd.prog) w base 29 9 o.type 5 j0 Tryd.underlying29 Tryd.underlying9 hj hy0 hy1 hy2 v d.length (cellsU d) hown (bs l) (by rw [hz]; unfold maxLen; omega) (by rw [hz]; omega) hbase
  unfold gAt execOp
  simp only [ho, resolve, invoke, builtin, Sem.run_bind, Sem.run_pure, Result.andThen_ok, List.map_toArray, List.map_cons, List.map_nil, hs, hx, hr]
  refine ⟨hrow ▸ g3, ?_⟩
  rw [strCells_bs, ← cellsU_app, hz] at g2
  unfold ownU
  rw [List.length_append]
  exact g2
def WkPost (T : WkR) (w : World) (e : Ending) (w' : World) : Prop := ∃ kv vw, e = .returned (.tuple #[kv, vw, .string (bs T.data), .bool T.ok]) ∧ (∃ k3 a n c, kv = kV k3 (.slice a n c)) ∧ ownI w' w.heap.size vw T.ws ∧ Up w w'

set_option maxRecDepth 100000 in
set_option maxHeartbeats 8000000 in
theorem l2Walk_any (k : KnD) (v : Value) (lo : Nat) (codes : List Int) (vc : Value) (lc : Nat) (w : World) (h : k.Ok) (hr : RdP lo w v k.ps) (hc : RdI lc w vc codes) (hl : codes.length ≤ 1048576) :
    Calls Tryd.prog 96  #[kV k v, vc] w (WkPost (walkN k codes [] []) w) := by
  obtain ⟨i0, hi, hz0, hz1, hz2⟩ := info_parts infoIntG
  obtain ⟨j0, hj, hy0, hy1, hy2⟩ := info_parts infoByte
  have hrt := fun (wq : World) (hu : Up w wq) => hr.up hu
  have hct := fun (wq : World) (hu : Up w wq) => hc.up hu
  obtain ⟨a, cap, rfl, -, -, -, -⟩ := hr
  obtain ⟨ac, cc, rfl, hcc1, hcc2, hcells⟩ := hc
  unfold maxLen at hcc2
  have HK := Lib.hid h
  clear h
  simp only [kV] at *
  go_enter Tryd.func96, Tryd.ntmps96
  go_wp2
  go_loopw [8, 9, 10] (fun vw vd i wr => RelWk (walkN k codes [] []) codes lo w vw vd i wr) (fun _ _ i _ => codes.length - (intOf i).toNat)
  case atStart =>
    refine ⟨k, .slice a k.ps.length cap, 0, [], [], rfl, Nat.zero_le _, rfl, rfl, by simp, HK.out, box_up (((Up.alloc (Up.refl _) _).alloc _).alloc _) (MapKept.heap_alloc w _).1, .inl (hrt w (Up.refl w)), ownsRow_up (own_mt (by simp) (by simp)) (Up.alloc (Up.refl _) _), own_mt (by simp) (by simp), box_up ((Up.alloc (Up.refl _) _).alloc _) (alloc2 w _ _), by (repeat (first | with_reducible exact Up.refl _ | with_reducible assumption | with_reducible refine Up.set ?_ (by first | exact Nat.le_refl _ | (simp only []; omega) | (simp; omega)) _ | with_reducible refine Up.alloc ?_ _ | with_reducible refine Up.drew ?_ | refine Up.trans ?_ (by with_reducible assumption)))⟩
  case round =>
    clear hrt
    obtain ⟨k', v', n, ws, d, rfl, hG⟩ := hrel
    have HG := Lib.hid hG
    have HB := Lib.hid hG.b
    have hok := hG.ok
    obtain ⟨a', c', rfl, -, -, -, -⟩ := hG.rd
    obtain ⟨aw, cw, rfl⟩ := ownsRow_shape hG.own
    obtain ⟨ad, cd, rfl⟩ := ownsRow_shape hG.dat
    obtain ⟨bk, r0, r1, r2, r3, r4, r5⟩ := hG.kn.cells
    have hwl : ws.length ≤ 1048576 := by have := hG.wl; have := hG.le; omega
    have hdl := hG.dl
    have hle := hG.le
    have hrs : w.heap.size + 1 < wr.heap.size := (Array.getElem?_eq_some_iff.1 hG.res).1
    have cWd := fun wx hr => l2Width_any k' (.slice a' k'.ps.length c') 0 wx hok hr
    have cE := fun wx => l1End_any k'.set wx hok.set
    have cK := fun wx => l1Clear_any k'.set wx hok.set
    obtain ⟨hb1, hb2, -, -, -⟩ := hok.nums
    have hwd := KnD.width_bd hok
    have hwd1 := hwd.2
    clear hG hwd
    by_cases hlt : n < codes.length
    · obtain ⟨b, off, rfl, hlo, hbl, hx0⟩ := hcells (by omega)
      have hx := hx0 n codes[n] (List.getElem?_eq_getElem hlt)
      have HD : Hid (codes.drop n = codes[n] :: codes.drop (n + 1)) := List.drop_eq_getElem_cons hlt
      have HDN : Hid (decide (codes.drop (n + 1) = []) = ((n : Int) == (codes.length : Int) - 1)) := by
        unfold Hid
        rw [Bool.eq_iff_iff, decide_eq_true_iff, beq_iff_eq, List.drop_eq_nil_iff]; omega
      have HXW := Lib.hid hx
      clear hx0 hcells hct
      generalize codes[n] = x at *
      go_wp2_with (first | (go_at_call 103; (with_reducible refine (cWd _ (HG.out.rd)).mono ?_); rintro e w2 ⟨rfl, U2⟩; have B2 := bcell U2; have Z2 := U2.size; (try simp at Z2); (try rw [Nat.add_one_le_iff] at Z2)) | (at_builtin; refine wpList_append_own _ rfl _ _ 48 rfl (w.heap.size + 2) 3 i0 (.int .i64 0) 1 8 Tryd.underlying48 hi hz0 hz1 hz2 rfl (by decide) _ _ _ rfl ((ownsRow_up HB.out.own U2).alloc _) ⟨w2.heap.size, 0, none⟩ 1 1 [.int .i64 (k'.width : Nat)] rfl rfl (new_cells [.int .i64 (k'.width : Nat)] _ rfl) (by intro u hu; simp at hu; subst hu; rfl) (by unfold maxLen; omega) (by omega) (by have := U2.size; simp; omega) ?_; rintro v4 w4 hown4 hgr4 -; obtain ⟨a4, c4, rfl⟩ := ownsRow_shape hown4; have hb4 : WkB codes lo w k' (.slice a' k'.ps.length c') (ws ++ [(k'.width : Int)]) d (.slice a4 (ws.length + 1) c4) (.slice ad d.length cd) w4 := (HB.out.upd (U2.alloc _)).ints hgr4 (ownI_snoc hown4); obtain ⟨-, r0, r1, r2, r3, r4, r5⟩ := hb4.kn.cells; have HB4 := Lib.hid hb4; clear hb4 hown4 hgr4))
      by_cases e1 : x = (clr k'.set : Int) + 1
      · subst e1
        refine wp_region_up 8 (by kernel_rfl) (by kernel_rfl) ?_
        simp only [List.take, List.drop]
        repeat (refine wpUp_step (fun K hK => ?_); go_simp; (try simp only [↓IntWalk.iteOmega]); first
          | (refine hK _ _ ?_; clear hK K)
          | (apply stepU_c
             · intro wq hwq; (have hbq := bcell hwq; (repeat (first | refine fills_no (by rfl) ?_ | refine fills_yes (by rfl) (fun vq hvq => ?_))); simp only [List.filter_nil, fills]; unfold upAt; (try ((obtain ⟨-, r0, r1, r2, r3, r4, r5⟩ := (HB4.out.kn.up hwq).cells; have hx := ((HB4.out.up.trans hwq).cell (p := ⟨b, off + n, none⟩) hbl).trans HXW.out))); go_simp; (try go_bits); (try simp only [↓IntWalk.iteOmega]); (try (rw [dif_pos (by omega)]; go_simp; try go_bits)); first | exact upOut_value | (apply upOut_call; (go_at_call 85; exact cE _)) | (apply upOut_eq; (go_at_call 85; exact cE _)))
             go_simp; refine hK _ _ ?_; clear hK K))
        refine wpUp_nil (fun wq hwq => ?_)
        simp only [fills]
        have hkq := HB4.out.kn.up hwq
        have HQ := Lib.hid (HB4.out.upd hwq)
        clear hwq
        go_wp2
        refine wp_region_own 13 9 (some (w.heap.size + 1)) (by kernel_rfl) (by kernel_rfl) ?_
        simp only [List.take, List.drop]
        repeat (refine wpG_step (fun K hK => ?_); go_simp; (try simp only [↓IntWalk.iteOmega]); first
          | (refine hK _ _ ?_; clear hK K)
          | (refine stepG_own (by rfl) (by kernel_rfl) ((fun u w' => KnAt (w.heap.size + 1) k' (.slice a' k'.ps.length c') w')) ((fun v w w' h hu => KnAt.up h hu)) (fun wq hwq => ?_) ?_
             · ((repeat (first | refine fills_no (by rfl) ?_ | refine fills_yes (by rfl) (fun vq hvq => ?_))); simp only [List.filter_nil, fills]; (obtain ⟨hRl, q0, q1, q2, q3, q4, q5⟩ := KnAt.cells (k := ⟨⟨0, 0, 0⟩, [], 0, 0⟩) (v := .slice none 0 0) (HQ.out.res.up hwq); have hfr := box_free (HQ.out.res.up hwq); unfold gAt; go_simp; exact ⟨grownBy_set (grownBy_set (grownBy_set (grownBy_set (grownBy_set (grownBy_set (grownBy_refl _ _) _ _) _ _) _ _) _ _) _ _) _ _, KnAt.store (HQ.out.res.up hwq) k' (.slice a' k'.ps.length c')⟩))
             refine hK _ _ ?_; clear hK K)
          | (refine stepG_c (by rfl) ?_ ?_ ?_
             rotate_left
             · intro wq hwq; (have hbq := gcell hwq; (repeat (first | refine fills_no (by rfl) ?_ | refine fills_yes (by rfl) (fun vq hvq => ?_))); simp only [List.filter_nil, fills]; unfold upAt; (try ((obtain ⟨-, r0, r1, r2, r3, r4, r5⟩ := (HQ.out.kn.gr hwq (by simp)).cells; have hconv := conv_any (HQ.out.dat.kept hwq (low_ne' (w := w) HQ.out.dat (by omega))) rfl))); go_simp; (try go_bits); (try simp only [↓IntWalk.iteOmega]); (try (rw [dif_pos (by omega)]; go_simp; try go_bits)); first | exact upOut_value)
             go_simp; refine hK _ _ ?_; clear hK K))
        refine wpG_nil (by rfl) (fun wq hwq => ?_)
        simp only [fills]
        rintro u hkr
        obtain ⟨hRl, q0, q1, q2, q3, q4, q5⟩ := KnAt.cells hkr
        have HT : Hid (walkN k codes [] [] = ⟨ws ++ [(k'.width : Int)], d, ((n : Int) == (codes.length : Int) - 1)⟩) := by
          unfold Hid; rw [← HG.out.tot, HD.out, walkN_end (k := k') (x := (clr k'.set : Int) + 1) (xs := codes.drop (n + 1)) (ws := ws) (d := d) rfl, HDN.out]
        have hUq : Hid (Up w wq) := up_grown' HQ.out.up hwq (by omega)
        have HO := Lib.hid (HQ.out.own.kept hwq (low_ne' (w := w) HQ.out.own (by omega)))
        clear hkr hwq
        go_wp2
        rw [HT.out]
        refine bodyPost_ret (v := .tuple #[kV k' (.slice a' k'.ps.length c'), .slice a4 (ws.length + 1) c4, .string (bs d), .bool ((n : Int) == (codes.length : Int) - 1)]) (by simp [results, Tryd.results96, go_sem, hRl, q0, q1, q2, q3, q4, q5]) rfl ⟨_, _, rfl, ⟨k', a', k'.ps.length, c', rfl⟩, ?_, hUq.out⟩
        exact ownsRow_base (ownI_len HO.out) (by omega)
      · have e1' : (x == (clr k'.set : Int) + 1) = false := by simpa using e1
        have E1 : Hid (x ≠ (k'.c : Int) + 1) := e1
        clear e1
        refine wp_region_up 8 (by kernel_rfl) (by kernel_rfl) ?_
        simp only [List.take, List.drop]
        repeat (refine wpUp_step (fun K hK => ?_); go_simp; (try simp only [↓IntWalk.iteOmega]); first
          | (refine hK _ _ ?_; clear hK K)
          | (apply stepU_c
             · intro wq hwq; (have hbq := bcell hwq; (repeat (first | refine fills_no (by rfl) ?_ | refine fills_yes (by rfl) (fun vq hvq => ?_))); simp only [List.filter_nil, fills]; unfold upAt; (try ((obtain ⟨-, r0, r1, r2, r3, r4, r5⟩ := (HB4.out.kn.up hwq).cells; have hx := ((HB4.out.up.trans hwq).cell (p := ⟨b, off + n, none⟩) hbl).trans HXW.out))); go_simp; (try go_bits); (try simp only [↓IntWalk.iteOmega]); (try (rw [dif_pos (by omega)]; go_simp; try go_bits)); first | exact upOut_value | (apply upOut_call; (go_at_call 85; exact cE _)) | (apply upOut_eq; (go_at_call 85; exact cE _)))
             go_simp; refine hK _ _ ?_; clear hK K))
        refine wpUp_nil (fun wq hwq => ?_)
        simp only [fills]
        have HQ := Lib.hid (HB4.out.upd hwq)
        clear hwq
        go_wp2
        by_cases e2 : x = (clr k'.set : Int)
        · have cSt := fun wx hr => l2Step_any k' (.slice a' k'.ps.length c') 0 x wx hok hr (fun h => absurd e2 h)
          have ek : k'.step x = k'.cleared := if_pos e2
          rw [ek] at cSt
          have E2 : Hid (x = (k'.c : Int)) := e2
          have HOKC := Lib.hid (KnD.cleared_ok hok)
          have HKG : Hid (k'.cleared = k'.cleared) := rfl
          subst e2
          clear ek hok
          refine wp_region_up 8 (by kernel_rfl) (by kernel_rfl) ?_
          simp only [List.take, List.drop]
          repeat (refine wpUp_step (fun K hK => ?_); go_simp; (try simp only [↓IntWalk.iteOmega]); first
            | (refine hK _ _ ?_; clear hK K)
            | (apply stepU_c
               · intro wq hwq; (have hbq := bcell hwq; (repeat (first | refine fills_no (by rfl) ?_ | refine fills_yes (by rfl) (fun vq hvq => ?_))); simp only [List.filter_nil, fills]; unfold upAt; (try ((obtain ⟨-, r0, r1, r2, r3, r4, r5⟩ := (HQ.out.kn.up hwq).cells; have hx := ((HQ.out.up.trans hwq).cell (p := ⟨b, off + n, none⟩) hbl).trans HXW.out))); go_simp; (try go_bits); (try simp only [↓IntWalk.iteOmega]); (try (rw [dif_pos (by omega)]; go_simp; try go_bits)); first | exact upOut_value | (apply upOut_call; (go_at_call 60; exact cK _)) | (apply upOut_eq; (go_at_call 60; exact cK _)))
               go_simp; refine hK _ _ ?_; clear hK K))
          refine wpUp_nil (fun wq hwq => ?_)
          simp only [fills]
          have HQ9 := Lib.hid (HQ.out.upd hwq)
          clear hwq
          go_wp2
          refine wp_region_up 6 (by kernel_rfl) (by kernel_rfl) ?_
          simp only [List.take, List.drop]
          repeat (refine wpUp_step (fun K hK => ?_); go_simp; (try simp only [↓IntWalk.iteOmega]); first
            | (refine hK _ _ ?_; clear hK K)
            | (apply stepU_c
               · intro wq hwq; (have hbq := bcell hwq; (repeat (first | refine fills_no (by rfl) ?_ | refine fills_yes (by rfl) (fun vq hvq => ?_))); simp only [List.filter_nil, fills]; unfold upAt; (try ((obtain ⟨-, r0, r1, r2, r3, r4, r5⟩ := (HQ9.out.kn.up hwq).cells; have hx := ((HQ9.out.up.trans hwq).cell (p := ⟨b, off + n, none⟩) hbl).trans HXW.out))); go_simp; (try go_bits); (try simp only [↓IntWalk.iteOmega]); (try (rw [dif_pos (by omega)]; go_simp; try go_bits)); first | exact upOut_value)
               go_simp; refine hK _ _ ?_; clear hK K)
            | (refine stepU_m (by kernel_rfl) (KnO (w.heap.size + 2) k'.cleared) (knO_closed _ _) (fun wq hwq => ?_) ?_
               · (have hbq := bcell hwq; (repeat (first | refine fills_no (by rfl) ?_ | refine fills_yes (by rfl) (fun vq hvq => ?_))); simp only [List.filter_nil, fills]; unfold upAt; (try ((obtain ⟨-, r0, r1, r2, r3, r4, r5⟩ := (HQ9.out.kn.up hwq).cells; have hx := ((HQ9.out.up.trans hwq).cell (p := ⟨b, off + n, none⟩) hbl).trans HXW.out))); go_simp; (try go_bits); (try simp only [↓IntWalk.iteOmega]); (try (rw [dif_pos (by omega)]; go_simp; try go_bits)); (apply upOut_known; exact cSt _ ((HQ9.out.upd hwq).rd); (have := hwq.size; have := (Array.getElem?_eq_some_iff.1 HQ9.out.res).1; omega)))
               refine hK _ _ ?_; clear hK K))
          refine wpUp_nil (fun wq hwq => ?_)
          simp only [fills]
          rintro u ⟨v3, rfl, ho3⟩
          obtain ⟨a3, c3, rfl⟩ := ownsRow_shape ho3
          obtain ⟨-, r0, r1, r2, r3, r4, r5⟩ := (HQ9.out.kn.up hwq).cells
          have hfr := box_free (HQ9.out.kn.up hwq)
          have HZ := Lib.hid ((HQ9.out.upd hwq).stored ho3)
          clear ho3 hwq
          go_wp2
          go_roundw
          case rel => exact ⟨k'.cleared, _, n + 1, ws ++ [(k'.width : Int)], d, by go_num, HZ.out.at' (T := walkN k codes [] []) hlt (by rw [← HG.out.tot, HD.out, walkN_clear E2.out]) (by have := HG.out.wl; simp; omega) (by exact hdl) (HOKC.out)⟩
          case measure => simp [intOf]; omega
        · have e2' : (x == (clr k'.set : Int)) = false := by simpa using e2
          have E2 : Hid (x ≠ (k'.c : Int)) := e2
          clear e2
          have cFl := fun wx hr => l2Follows_any k' (.slice a' k'.ps.length c') 0 x wx hok hr
          refine wp_region_up 8 (by kernel_rfl) (by kernel_rfl) ?_
          simp only [List.take, List.drop]
          repeat (refine wpUp_step (fun K hK => ?_); go_simp; (try simp only [↓IntWalk.iteOmega]); first
            | (refine hK _ _ ?_; clear hK K)
            | (apply stepU_c
               · intro wq hwq; (have hbq := bcell hwq; (repeat (first | refine fills_no (by rfl) ?_ | refine fills_yes (by rfl) (fun vq hvq => ?_))); simp only [List.filter_nil, fills]; unfold upAt; (try ((obtain ⟨-, r0, r1, r2, r3, r4, r5⟩ := (HQ.out.kn.up hwq).cells; have hx := ((HQ.out.up.trans hwq).cell (p := ⟨b, off + n, none⟩) hbl).trans HXW.out))); go_simp; (try go_bits); (try simp only [↓IntWalk.iteOmega]); (try (rw [dif_pos (by omega)]; go_simp; try go_bits)); first | exact upOut_value | (apply upOut_call; (go_at_call 60; exact cK _)) | (apply upOut_eq; (go_at_call 60; exact cK _)))
               go_simp; refine hK _ _ ?_; clear hK K))
          refine wpUp_nil (fun wq hwq => ?_)
          simp only [fills]
          have HQ9 := Lib.hid (HQ.out.upd hwq)
          clear hwq
          go_wp2
          cases hf : k'.follows x
          · have HBAD : Hid (k'.follows x = false ∨ 2000 < d.length) := .inl hf
            rw [hf] at cFl
            clear hf hok
            have HT : Hid (walkN k codes [] [] = ⟨ws ++ [(k'.width : Int)], [], false⟩) := by
              unfold Hid; rw [← HG.out.tot, HD.out, walkN_bad (k := k') E1.out E2.out HBAD.out]
            refine wp_region_up 12 (by kernel_rfl) (by kernel_rfl) ?_
            simp only [List.take, List.drop]
            repeat (refine wpUp_step (fun K hK => ?_); go_simp; (try simp only [↓IntWalk.iteOmega]); first
              | (refine hK _ _ ?_; clear hK K)
              | (apply stepU_c
                 · intro wq hwq; (have hbq := bcell hwq; (repeat (first | refine fills_no (by rfl) ?_ | refine fills_yes (by rfl) (fun vq hvq => ?_))); simp only [List.filter_nil, fills]; unfold upAt; (try ((obtain ⟨-, r0, r1, r2, r3, r4, r5⟩ := (HQ9.out.kn.up hwq).cells; have hx := ((HQ9.out.up.trans hwq).cell (p := ⟨b, off + n, none⟩) hbl).trans HXW.out))); go_simp; (try go_bits); (try simp only [↓IntWalk.iteOmega]); (try (rw [dif_pos (by omega)]; go_simp; try go_bits)); first | exact upOut_value | (apply upOut_call; (go_at_call 104; exact cFl _ ((HQ9.out.upd hwq).rd))) | (apply upOut_eq; (go_at_call 104; exact cFl _ ((HQ9.out.upd hwq).rd))))
                 go_simp; refine hK _ _ ?_; clear hK K))
            refine wpUp_nil (fun wq hwq => ?_)
            simp only [fills]
            have HQ10 := Lib.hid (HQ9.out.upd hwq)
            obtain ⟨-, r0, r1, r2, r3, r4, r5⟩ := (HQ9.out.kn.up hwq).cells
            obtain ⟨hRl, q0, q1, q2, q3, q4, q5⟩ := KnAt.cells (k := ⟨⟨0, 0, 0⟩, [], 0, 0⟩) (v := .slice none 0 0) (HQ9.out.res.up hwq)
            have hfr := box_free (HQ9.out.res.up hwq)
            clear hwq
            go_wp2
            rw [HT.out]
            refine bodyPost_ret (v := .tuple #[kV k' (.slice a' k'.ps.length c'), .slice a4 (ws.length + 1) c4, .string ⟨#[]⟩, .bool false]) (by simp [results, Tryd.results96, go_sem, hRl, q0, q1, q2, q3, q4, q5]) rfl ⟨_, _, rfl, ⟨k', a', k'.ps.length, c', rfl⟩, ?_, ?_⟩
            · refine ownsRow_base (base := w.heap.size + 2) ?_ (by omega)
              repeat (with_reducible refine ownsRow_setne ?_ (by omega) _ _)
              exact HQ10.out.own
            · have hUU := HQ10.out.up
              (repeat (first | with_reducible exact Up.refl _ | with_reducible assumption | with_reducible refine Up.set ?_ (by first | exact Nat.le_refl _ | (simp only []; omega) | (simp; omega)) _ | with_reducible refine Up.alloc ?_ _ | with_reducible refine Up.drew ?_ | refine Up.trans ?_ (by with_reducible assumption)))
          · rw [hf] at cFl
            by_cases hd : d.length ≤ 2000
            · have cSt := fun wx hr => l2Step_any k' (.slice a' k'.ps.length c') 0 x wx hok hr (fun _ => hf)
              have ek : k'.step x = k'.after x := if_neg E2.out
              rw [ek] at cSt
              have cA := fun wx hr => l2Any_any k' (.slice a' k'.ps.length c') 0 x wx hok hr hf
              have HOKA := Lib.hid (KnD.after_ok hok hf)
              have hal := KnD.any_len hok hf
              have HF := Lib.hid hf
              have hzl := bs_size (k'.any x)
              clear ek hok hf
              refine wp_region_up 12 (by kernel_rfl) (by kernel_rfl) ?_
              simp only [List.take, List.drop]
              repeat (refine wpUp_step (fun K hK => ?_); go_simp; (try simp only [↓IntWalk.iteOmega]); first
                | (refine hK _ _ ?_; clear hK K)
                | (apply stepU_c
                   · intro wq hwq; (have hbq := bcell hwq; (repeat (first | refine fills_no (by rfl) ?_ | refine fills_yes (by rfl) (fun vq hvq => ?_))); simp only [List.filter_nil, fills]; unfold upAt; (try ((obtain ⟨-, r0, r1, r2, r3, r4, r5⟩ := (HQ9.out.kn.up hwq).cells; have hx := ((HQ9.out.up.trans hwq).cell (p := ⟨b, off + n, none⟩) hbl).trans HXW.out))); go_simp; (try go_bits); (try simp only [↓IntWalk.iteOmega]); (try (rw [dif_pos (by omega)]; go_simp; try go_bits)); first | exact upOut_value | (apply upOut_call; (go_at_call 104; exact cFl _ ((HQ9.out.upd hwq).rd))) | (apply upOut_eq; (go_at_call 104; exact cFl _ ((HQ9.out.upd hwq).rd))))
                   go_simp; refine hK _ _ ?_; clear hK K))
              refine wpUp_nil (fun wq hwq => ?_)
              simp only [fills]
              have HQ10 := Lib.hid (HQ9.out.upd hwq)
              clear hwq
              go_wp2
              refine wp_region_own 8 7 (Value.ownBlock (.slice ad d.length cd)) (by kernel_rfl) (by kernel_rfl) ?_
              simp only [List.take, List.drop]
              repeat (refine wpG_step (fun K hK => ?_); go_simp; (try simp only [↓IntWalk.iteOmega]); first
                | (refine hK _ _ ?_; clear hK K)
                | (refine stepG_own (by rfl) (by kernel_rfl) ((fun v' w' => ownU w' (w.heap.size + 2) v' (d ++ k'.any x))) ((fun v w w' h hu => ownsRow_up h hu)) (fun wq hwq => ?_) ?_
                   · ((repeat (first | refine fills_no (by rfl) ?_ | refine fills_yes (by rfl) (fun vq hvq => ?_))); simp only [List.filter_nil, fills]; (exact gAt_append_str (.tmp 63) (.tmp 69) (by rfl) (w.heap.size + 2) (.slice ad d.length cd) d (k'.any x) (by rfl) (ownsRow_up HQ10.out.dat hwq) (by rfl) (by omega) (by omega) (by have := hwq.size; have := (Array.getElem?_eq_some_iff.1 HQ10.out.res).1; omega) _ rfl))
                   refine hK _ _ ?_; clear hK K)
                | (refine stepG_c (by rfl) ?_ ?_ ?_
                   rotate_left
                   · intro wq hwq; (have hbq := gcell hwq; (repeat (first | refine fills_no (by rfl) ?_ | refine fills_yes (by rfl) (fun vq hvq => ?_))); simp only [List.filter_nil, fills]; unfold upAt; (try ((obtain ⟨-, r0, r1, r2, r3, r4, r5⟩ := (HQ10.out.kn.gr hwq (low_ne (w := w) HQ10.out.dat (by omega))).cells; have hx := ((HQ10.out.upG hwq).cell (p := ⟨b, off + n, none⟩) hbl).trans HXW.out))); go_simp; (try go_bits); (try simp only [↓IntWalk.iteOmega]); (try (rw [dif_pos (by omega)]; go_simp; try go_bits)); first | exact upOut_value | (apply upOut_call; (go_at_call 100; exact cA _ (HQ10.out.rdG hwq))) | (apply upOut_eq; (go_at_call 100; exact cA _ (HQ10.out.rdG hwq))))
                   go_simp; refine hK _ _ ?_; clear hK K))
              refine wpG_nil (by rfl) (fun wq hwq => ?_)
              simp only [fills]
              rintro v12 h12
              obtain ⟨a12, c12, rfl⟩ := ownsRow_shape h12
              have HQ12 := Lib.hid (HQ10.out.bytes hwq h12)
              obtain ⟨-, r0, r1, r2, r3, r4, r5⟩ := HQ12.out.kn.cells
              clear hwq h12
              go_wp2
              refine wp_region_up 6 (by kernel_rfl) (by kernel_rfl) ?_
              simp only [List.take, List.drop]
              repeat (refine wpUp_step (fun K hK => ?_); go_simp; (try simp only [↓IntWalk.iteOmega]); first
                | (refine hK _ _ ?_; clear hK K)
                | (apply stepU_c
                   · intro wq hwq; (have hbq := bcell hwq; (repeat (first | refine fills_no (by rfl) ?_ | refine fills_yes (by rfl) (fun vq hvq => ?_))); simp only [List.filter_nil, fills]; unfold upAt; (try ((obtain ⟨-, r0, r1, r2, r3, r4, r5⟩ := (HQ12.out.kn.up hwq).cells; have hx := ((HQ12.out.up.trans hwq).cell (p := ⟨b, off + n, none⟩) hbl).trans HXW.out))); go_simp; (try go_bits); (try simp only [↓IntWalk.iteOmega]); (try (rw [dif_pos (by omega)]; go_simp; try go_bits)); first | exact upOut_value)
                   go_simp; refine hK _ _ ?_; clear hK K)
                | (refine stepU_m (by kernel_rfl) (KnO (w.heap.size + 2) (k'.after x)) (knO_closed _ _) (fun wq hwq => ?_) ?_
                   · (have hbq := bcell hwq; (repeat (first | refine fills_no (by rfl) ?_ | refine fills_yes (by rfl) (fun vq hvq => ?_))); simp only [List.filter_nil, fills]; unfold upAt; (try ((obtain ⟨-, r0, r1, r2, r3, r4, r5⟩ := (HQ12.out.kn.up hwq).cells; have hx := ((HQ12.out.up.trans hwq).cell (p := ⟨b, off + n, none⟩) hbl).trans HXW.out))); go_simp; (try go_bits); (try simp only [↓IntWalk.iteOmega]); (try (rw [dif_pos (by omega)]; go_simp; try go_bits)); (apply upOut_known; exact cSt _ ((HQ12.out.upd hwq).rd); (have := hwq.size; have := (Array.getElem?_eq_some_iff.1 HQ12.out.res).1; omega)))
                   refine hK _ _ ?_; clear hK K))
              refine wpUp_nil (fun wq hwq => ?_)
              simp only [fills]
              rintro u ⟨v3, rfl, ho3⟩
              obtain ⟨a3, c3, rfl⟩ := ownsRow_shape ho3
              obtain ⟨-, r0, r1, r2, r3, r4, r5⟩ := (HQ12.out.kn.up hwq).cells
              have hfr := box_free (HQ12.out.kn.up hwq)
              have HZ := Lib.hid ((HQ12.out.upd hwq).stored ho3)
              clear ho3 hwq
              go_wp2
              go_roundw
              case rel =>
                rw [← List.length_append]
                exact ⟨(k'.after x), _, n + 1, ws ++ [(k'.width : Int)], d ++ k'.any x, by go_num, HZ.out.at' (T := walkN k codes [] []) hlt (by rw [← HG.out.tot, HD.out, walkN_word E1.out E2.out HF.out hd]) (by have := HG.out.wl; simp; omega) (by rw [List.length_append]; omega) (HOKA.out)⟩
              case measure => simp [intOf]; omega
            · have HBAD : Hid (k'.follows x = false ∨ 2000 < d.length) := .inr (by omega)
              clear hf hok
              have HT : Hid (walkN k codes [] [] = ⟨ws ++ [(k'.width : Int)], [], false⟩) := by
                unfold Hid; rw [← HG.out.tot, HD.out, walkN_bad (k := k') E1.out E2.out HBAD.out]
              refine wp_region_up 12 (by kernel_rfl) (by kernel_rfl) ?_
              simp only [List.take, List.drop]
              repeat (refine wpUp_step (fun K hK => ?_); go_simp; (try simp only [↓IntWalk.iteOmega]); first
                | (refine hK _ _ ?_; clear hK K)
                | (apply stepU_c
                   · intro wq hwq; (have hbq := bcell hwq; (repeat (first | refine fills_no (by rfl) ?_ | refine fills_yes (by rfl) (fun vq hvq => ?_))); simp only [List.filter_nil, fills]; unfold upAt; (try ((obtain ⟨-, r0, r1, r2, r3, r4, r5⟩ := (HQ9.out.kn.up hwq).cells; have hx := ((HQ9.out.up.trans hwq).cell (p := ⟨b, off + n, none⟩) hbl).trans HXW.out))); go_simp; (try go_bits); (try simp only [↓IntWalk.iteOmega]); (try (rw [dif_pos (by omega)]; go_simp; try go_bits)); first | exact upOut_value | (apply upOut_call; (go_at_call 104; exact cFl _ ((HQ9.out.upd hwq).rd))) | (apply upOut_eq; (go_at_call 104; exact cFl _ ((HQ9.out.upd hwq).rd))))
                   go_simp; refine hK _ _ ?_; clear hK K))
              refine wpUp_nil (fun wq hwq => ?_)
              simp only [fills]
              have HQ10 := Lib.hid (HQ9.out.upd hwq)
              obtain ⟨-, r0, r1, r2, r3, r4, r5⟩ := (HQ9.out.kn.up hwq).cells
              obtain ⟨hRl, q0, q1, q2, q3, q4, q5⟩ := KnAt.cells (k := ⟨⟨0, 0, 0⟩, [], 0, 0⟩) (v := .slice none 0 0) (HQ9.out.res.up hwq)
              have hfr := box_free (HQ9.out.res.up hwq)
              clear hwq
              go_wp2
              rw [HT.out]
              refine bodyPost_ret (v := .tuple #[kV k' (.slice a' k'.ps.length c'), .slice a4 (ws.length + 1) c4, .string ⟨#[]⟩, .bool false]) (by simp [results, Tryd.results96, go_sem, hRl, q0, q1, q2, q3, q4, q5]) rfl ⟨_, _, rfl, ⟨k', a', k'.ps.length, c', rfl⟩, ?_, ?_⟩
              · refine ownsRow_base (base := w.heap.size + 2) ?_ (by omega)
                repeat (with_reducible refine ownsRow_setne ?_ (by omega) _ _)
                exact HQ10.out.own
              · have hUU := HQ10.out.up
                (repeat (first | with_reducible exact Up.refl _ | with_reducible assumption | with_reducible refine Up.set ?_ (by first | exact Nat.le_refl _ | (simp only []; omega) | (simp; omega)) _ | with_reducible refine Up.alloc ?_ _ | with_reducible refine Up.drew ?_ | refine Up.trans ?_ (by with_reducible assumption)))
    · have hn : codes.length ≤ n := by omega
      have hn' : ¬ ((n : Int) < (codes.length : Int)) := by omega
      clear hcells hct hlt
      go_wp2
      by_cases hd2 : d.length ≤ 2000
      · refine wp_region_own 11 7 (some (w.heap.size + 1)) (by kernel_rfl) (by kernel_rfl) ?_
        simp only [List.take, List.drop]
        repeat (refine wpG_step (fun K hK => ?_); go_simp; (try simp only [↓IntWalk.iteOmega]); first
          | (refine hK _ _ ?_; clear hK K)
          | (refine stepG_own (by rfl) (by kernel_rfl) ((fun u w' => KnAt (w.heap.size + 1) k' (.slice a' k'.ps.length c') w')) ((fun v w w' h hu => KnAt.up h hu)) (fun wq hwq => ?_) ?_
             · ((repeat (first | refine fills_no (by rfl) ?_ | refine fills_yes (by rfl) (fun vq hvq => ?_))); simp only [List.filter_nil, fills]; (obtain ⟨hRl, q0, q1, q2, q3, q4, q5⟩ := KnAt.cells (k := ⟨⟨0, 0, 0⟩, [], 0, 0⟩) (v := .slice none 0 0) (HB.out.res.up hwq); have hfr := box_free (HB.out.res.up hwq); unfold gAt; go_simp; exact ⟨grownBy_set (grownBy_set (grownBy_set (grownBy_set (grownBy_set (grownBy_set (grownBy_refl _ _) _ _) _ _) _ _) _ _) _ _) _ _, KnAt.store (HB.out.res.up hwq) k' (.slice a' k'.ps.length c')⟩))
             refine hK _ _ ?_; clear hK K)
          | (refine stepG_c (by rfl) ?_ ?_ ?_
             rotate_left
             · intro wq hwq; (have hbq := gcell hwq; (repeat (first | refine fills_no (by rfl) ?_ | refine fills_yes (by rfl) (fun vq hvq => ?_))); simp only [List.filter_nil, fills]; unfold upAt; (try ((obtain ⟨-, r0, r1, r2, r3, r4, r5⟩ := (HB.out.kn.gr hwq (by simp)).cells; have hconv := conv_any (HB.out.dat.kept hwq (low_ne' (w := w) HB.out.dat (by omega))) rfl))); go_simp; (try go_bits); (try simp only [↓IntWalk.iteOmega]); (try (rw [dif_pos (by omega)]; go_simp; try go_bits)); first | exact upOut_value)
             go_simp; refine hK _ _ ?_; clear hK K))
        refine wpG_nil (by rfl) (fun wq hwq => ?_)
        simp only [fills]
        rintro u hkr
        obtain ⟨hRl, q0, q1, q2, q3, q4, q5⟩ := KnAt.cells hkr
        have HT : Hid (walkN k codes [] [] = ⟨ws, d, true⟩) := by
          unfold Hid; rw [← HG.out.tot, List.drop_of_length_le (by omega), walkN, decide_eq_true hd2]
        have hUq : Hid (Up w wq) := up_grown' HB.out.up hwq (by omega)
        have HO := Lib.hid (HB.out.own.kept hwq (low_ne' (w := w) HB.out.own (by omega)))
        clear hkr hwq
        go_wp2
        rw [HT.out]
        refine bodyPost_ret (v := .tuple #[kV k' (.slice a' k'.ps.length c'), .slice aw ws.length cw, .string (bs d), .bool true]) (by simp [results, Tryd.results96, go_sem, (show (d.length : Int) ≤ 2000 from by omega), hRl, q0, q1, q2, q3, q4, q5]) rfl ⟨_, _, rfl, ⟨k', a', k'.ps.length, c', rfl⟩, ?_, hUq.out⟩
        exact ownsRow_base HO.out (by omega)
      · refine wp_region_own 11 7 (some (w.heap.size + 1)) (by kernel_rfl) (by kernel_rfl) ?_
        simp only [List.take, List.drop]
        repeat (refine wpG_step (fun K hK => ?_); go_simp; (try simp only [↓IntWalk.iteOmega]); first
          | (refine hK _ _ ?_; clear hK K)
          | (refine stepG_own (by rfl) (by kernel_rfl) ((fun u w' => KnAt (w.heap.size + 1) k' (.slice a' k'.ps.length c') w')) ((fun v w w' h hu => KnAt.up h hu)) (fun wq hwq => ?_) ?_
             · ((repeat (first | refine fills_no (by rfl) ?_ | refine fills_yes (by rfl) (fun vq hvq => ?_))); simp only [List.filter_nil, fills]; (obtain ⟨hRl, q0, q1, q2, q3, q4, q5⟩ := KnAt.cells (k := ⟨⟨0, 0, 0⟩, [], 0, 0⟩) (v := .slice none 0 0) (HB.out.res.up hwq); have hfr := box_free (HB.out.res.up hwq); unfold gAt; go_simp; exact ⟨grownBy_set (grownBy_set (grownBy_set (grownBy_set (grownBy_set (grownBy_set (grownBy_refl _ _) _ _) _ _) _ _) _ _) _ _) _ _, KnAt.store (HB.out.res.up hwq) k' (.slice a' k'.ps.length c')⟩))
             refine hK _ _ ?_; clear hK K)
          | (refine stepG_c (by rfl) ?_ ?_ ?_
             rotate_left
             · intro wq hwq; (have hbq := gcell hwq; (repeat (first | refine fills_no (by rfl) ?_ | refine fills_yes (by rfl) (fun vq hvq => ?_))); simp only [List.filter_nil, fills]; unfold upAt; (try ((obtain ⟨-, r0, r1, r2, r3, r4, r5⟩ := (HB.out.kn.gr hwq (by simp)).cells; have hconv := conv_any (HB.out.dat.kept hwq (low_ne' (w := w) HB.out.dat (by omega))) rfl))); go_simp; (try go_bits); (try simp only [↓IntWalk.iteOmega]); (try (rw [dif_pos (by omega)]; go_simp; try go_bits)); first | exact upOut_value)
             go_simp; refine hK _ _ ?_; clear hK K))
        refine wpG_nil (by rfl) (fun wq hwq => ?_)
        simp only [fills]
        rintro u hkr
        obtain ⟨hRl, q0, q1, q2, q3, q4, q5⟩ := KnAt.cells hkr
        have HT : Hid (walkN k codes [] [] = ⟨ws, d, false⟩) := by
          unfold Hid; rw [← HG.out.tot, List.drop_of_length_le (by omega), walkN, decide_eq_false hd2]
        have hUq : Hid (Up w wq) := up_grown' HB.out.up hwq (by omega)
        have HO := Lib.hid (HB.out.own.kept hwq (low_ne' (w := w) HB.out.own (by omega)))
        clear hkr hwq
        go_wp2
        rw [HT.out]
        refine bodyPost_ret (v := .tuple #[kV k' (.slice a' k'.ps.length c'), .slice aw ws.length cw, .string (bs d), .bool false]) (by simp [results, Tryd.results96, go_sem, (show ¬ ((d.length : Int) ≤ 2000) from by omega), hRl, q0, q1, q2, q3, q4, q5]) rfl ⟨_, _, rfl, ⟨k', a', k'.ps.length, c', rfl⟩, ?_, hUq.out⟩
        exact ownsRow_base HO.out (by omega)

end Go.Proofs.YtmjpopfacagjhaaDoor
