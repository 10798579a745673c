/- Texts joined into one: the walks and laws that the last text leans on. Conditions: as each says. -/
import Derived.Test.YtgbakgaegldomaaGreatMFnWriterKnownLawN
import Derived.Test.YtgbakgaegldomaaGreatMFnWriterKnownLawXP
import Derived.Test.YtgbakgaegldomaaGreatMFnWriterKnownLawXE
import Derived.Test.YtgbakgaegldomaaGreatMFnWriterKnownLawT
import Derived.Test.YtgbakgaegldomaaGreatMFnWriterKnownLawU
import Derived.Test.YtgbakgaegldomaaGreatMFnWriterKnownLawA
import Derived.Shelf.Strings.Builder1
import Derived.Test.YtgbakgaegldomaaGreatMFnWriterKnownLawF
import Derived.Test.YtgbakgaegldomaaGreatMFnWriterKnownLawS

set_option linter.unusedVariables false
set_option linter.unusedSimpArgs false
/- Plain law: data that fits has no more than 3002 greedy codes. Conditions: what is known is valid, and the data has only literals. -/
namespace Go.Proofs.YtgbakgaegldomaaGreat
open Go Go.RowKit
theorem KnD.cleared_len {k : KnD} (h : k.Ok) : ((k.cleared.ps.length : Nat) : Int) = k.base := by
  have h0 := h.base0; have h1 := h.base1
  show ((k.ps.take k.base.toNat).length : Int) = k.base
  rw [List.length_take]; omega
theorem greedyN_tight : ∀ (n : Nat) (k : KnD) (d : List UInt8), k.Ok → (∀ b ∈ d, b.toNat < k.c) → d.length ≤ n → (k.last = -1 → (k.ps.length : Int) = k.base) →
    2 * (greedyN n k d).length ≤ 3 * d.length + 2 + (if k.last = -1 then 0 else 1) := by
  intro n
  induction n with
  | zero =>
    intro k d hk hl hd hb
    have : d = [] := List.length_eq_zero_iff.1 (by omega)
    subst this
    simp [greedyN]
  | succ n ih =>
    intro k d hk hl hd hb
    by_cases hde : d = []
    · subst hde; rw [greedyN_nil]; simp
    · have hlp := KnD.longest_pos (k := k) hde
      have hll := KnD.longest_le (k := k) d
      obtain ⟨hfw, -⟩ := KnD.find_any hk hde hl
      have hx := KnD.find_bd hk hfw
      rw [greedyN, if_neg hde]
      generalize k.find (k.longest d) = x at *
      generalize (k.longest d).length = n1 at *
      have hok := KnD.after_ok hk hfw
      have hl2 : ∀ b ∈ d.drop n1, b.toNat < (k.after x).c := fun b hb => hl b (List.mem_of_mem_drop hb)
      have hdl : (d.drop n1).length = d.length - n1 := List.length_drop
      have hla : (k.after x).last = x := rfl
      split
      · next hf =>
        have hne : ¬ k.last = -1 := by
          intro e
          have h1 := hf.1
          unfold KnD.full at h1
          simp only [Bool.and_eq_true, decide_eq_true_eq] at h1
          have hg : k.grow = false := by unfold KnD.grow; rw [e]; rfl
          have h2 : (k.after x).ps = k.ps := by unfold KnD.after; rw [hg]; simp
          have h3 := h1.2
          rw [h2] at h3
          have h4 := hb e
          have h5 : (k.after x).base = k.base := rfl
          omega
        have := ih (k.after x).cleared (d.drop n1) (KnD.cleared_ok hok) hl2 (by omega) (fun _ => KnD.cleared_len hok)
        rw [if_pos (show (k.after x).cleared.last = -1 from rfl)] at this
        rw [if_neg hne, List.length_cons, List.length_cons]
        omega
      · next hf =>
        have := ih (k.after x) (d.drop n1) hok hl2 (by omega) (fun e => by omega)
        rw [if_neg (by omega)] at this
        rw [List.length_cons]
        split <;> omega
theorem greedy_tight {k : KnD} {d : List UInt8} (hk : k.Ok) (hl : ∀ b ∈ d, b.toNat < k.c) (hd : d.length ≤ 2000) : (greedy k d).length ≤ 3002 := by
  have h := greedyN_tight d.length k.cleared d (KnD.cleared_ok hk) hl (Nat.le_refl _) (fun _ => KnD.cleared_len hk)
  rw [if_pos (show k.cleared.last = -1 from rfl)] at h
  unfold greedy
  rw [List.length_cons]; omega
end Go.Proofs.YtgbakgaegldomaaGreat

/- Walks of the program's PackCodes, GreedyCodes, Compress. Conditions: what is known is valid and can be read. -/
namespace Go.Proofs.YtgbakgaegldomaaGreat
open Go Go.RowKit
set_option maxRecDepth 100000 in
set_option maxHeartbeats 1000000 in
theorem packBI_any (o : Int) (s : ByteArray) (w : World) (ho : o = 0 ∨ o = 1) (hb : isBits s.data.toList) (hs : s.size ≤ 32000) :
    Calls Tryz.prog 13  #[.int .i64 o, .string s] w (Same (.tuple #[.string (bs (packL o s.data.toList)), .bool true]) w) := by
  have cO := fun w => orderI_any o w
  have cV := fun w => bitsVI_any s w hb hs
  have cP := fun w => packI_any o s w ho hb (by omega)
  have ho1 : (o == 0 || o == 1) = true := by rcases ho with rfl | rfl <;> rfl
  rw [ho1] at cO
  clear hb ho ho1
  go_enter Tryz.func13, Tryz.ntmps13
  go_wp2_with (first | (go_at_call 49; (with_reducible refine (cO _).mono ?_); rintro e w' ⟨rfl, rfl⟩) | (go_at_call 50; (with_reducible refine (cV _).mono ?_); rintro e w' ⟨rfl, rfl⟩) | (go_at_call 48; (with_reducible refine (cP _).mono ?_); rintro e w3 ⟨rfl, U3⟩; have B3 := bcell U3; have Z3 := U3.size; (try simp at Z3); (try rw [Nat.add_one_le_iff] at Z3)))
  go_ret2
  exact ⟨rfl, U3⟩
end Go.Proofs.YtgbakgaegldomaaGreat

/- Compress of both sides for what is known of any kind. Conditions: the pairs can be read, the setting's number of literals is a number of 64 bits. -/
namespace Go.Proofs.YtgbakgaegldomaaGreat
open Go Go.RowKit
def compG (k : KnD) (d : List UInt8) : Option (List UInt8) := if validK k then compO k d else none
theorem compG_none {k : KnD} {d : List UInt8} (h : (validK k && fitsB k.set d) = false) : compG k d = none := by
  unfold compG compO
  cases h1 : validK k
  · rfl
  · rw [h1, Bool.true_and] at h
    rw [h]; rfl
theorem compG_some {k : KnD} {d : List UInt8} (h1 : validK k = true) (h2 : fitsB k.set d = true) : compG k d = some (compL k d) := by
  unfold compG compO
  rw [h1, h2]; rfl
end Go.Proofs.YtgbakgaegldomaaGreat

/- Writing all parts is compressing their data, whatever is known; the laws' soJoined. Conditions: as each says. -/
namespace Go.Proofs.YtgbakgaegldomaaGreat
open Go Go.RowKit
def joinL (ps : List ByteArray) : List UInt8 := (ps.map (·.data.toList)).flatten
theorem joinL_snoc (ps : List ByteArray) (p : ByteArray) : joinL (ps ++ [p]) = joinL ps ++ p.data.toList := by simp [joinL]
theorem joinL_cons (p : ByteArray) (ps : List ByteArray) : joinL (p :: ps) = p.data.toList ++ joinL ps := by simp [joinL]
theorem joinL_take (ps : List ByteArray) {j : Nat} (h : j < ps.length) : joinL (ps.take (j + 1)) = joinL (ps.take j) ++ ps[j].data.toList := by
  rw [List.take_succ_eq_append_getElem h, joinL_snoc]
theorem joinL_len {n : Nat} : ∀ (ps : List ByteArray), (∀ t ∈ ps, t.size ≤ n) → (joinL ps).length ≤ n * ps.length := by
  intro ps
  induction ps with
  | nil => intro _; exact Nat.zero_le _
  | cons p ps ih =>
    intro h
    have h1 := ih fun t ht => h t (List.mem_cons_of_mem _ ht)
    have h2 := h p (List.mem_cons_self ..)
    have h3 : p.data.toList.length = p.size := rfl
    rw [joinL_cons, List.length_append, List.length_cons, Nat.mul_add]
    omega
theorem wdO_wrd {w : WrD} (h : wrOk w) (d : List UInt8) : wdO w d = wrdO w d := by
  unfold wdO wrdO
  rw [wrvB_of h, Bool.true_and]
theorem waW_eq : ∀ (ps : List ByteArray) {w : WrD} {out : List UInt8}, wrOk w → waW w ps out = waO w (ps.map (·.data.toList)) out := by
  intro ps
  induction ps with
  | nil =>
    intro w out h
    rw [waW, List.map_nil, waO, wcO_some (wrvB_of h)]
    rfl
  | cons p ps ih =>
    intro w out h
    rw [waW, List.map_cons, waO, wdO_wrd h]
    have hc := wdO_case (x := w) (d := p.data.toList)
    rw [wdO_wrd h] at hc
    rcases hc with ⟨h1, -, -⟩ | ⟨r, h1, -, -, h4, -⟩
    · rw [h1]
    · rw [h1]
      exact ih h4
theorem waG_comp (k : KnD) (ps : List ByteArray) (hd : (joinL ps).length ≤ 2000) : waG k ps = compG k (joinL ps) := by
  unfold waG compG
  cases hv : validK k
  · rfl
  · rw [if_pos rfl, if_pos rfl, waW_eq ps (wrOk_new hv)]
    exact waO_all (ok_of_valid hv).1 _ hd
def RelJn (ps : List ByteArray) (w : World) (s i : Value) (wr : World) : Prop := ∃ j : Nat, j ≤ ps.length ∧ s = .string (bs (joinL (ps.take j))) ∧ i = .int .i64 j ∧ w = wr
set_option maxRecDepth 100000 in
set_option maxHeartbeats 2000000 in
theorem soJoined_any (ps : List ByteArray) (v : Value) (w : World) (h : ArgS w v ps) (hn : ps.length ≤ 1000) (hs : ∀ t ∈ ps, t.size ≤ 10000) :
    Calls Tryz.prog 9  #[v] w (fun e w' => e = .returned (.string (bs (joinL ps))) ∧ w = w') := by
  have hat := h
  obtain ⟨a, cap, rfl, hm, hms, -⟩ := h
  unfold maxLen at hm
  go_enter Tryz.func9, Tryz.ntmps9
  go_wp2
  go_loopw [3, 4] (fun s i wr => RelJn ps w s i wr) (fun _ i _ => ps.length - (intOf i).toNat)
  case atStart => exact ⟨0, Nat.zero_le _, rfl, rfl, rfl⟩
  case round =>
    obtain ⟨j, hj, rfl, rfl, rfl⟩ := hrel
    by_cases hlt : j < ps.length
    · obtain ⟨b, off, rfl, hbl, hx, -, hnc, hcm⟩ := hat.at hlt
      have HS := Lib.hid (joinL_take ps hlt)
      have hl1 := joinL_len (n := 10000) (ps.take j) (fun t ht => hs t (List.mem_of_mem_take ht))
      have hl2 : (ps.take j).length ≤ 1000 := by rw [List.length_take]; omega
      have hsm := hs _ (List.getElem_mem hlt)
      have hbz := bs_size (joinL (ps.take j))
      unfold maxLen at hcm
      have hcat : bs (joinL (ps.take j)) ++ ps[j] = bs (joinL (ps.take j) ++ (ps[j]).data.toList) := by rw [← bs_app]; rfl
      generalize joinL (ps.take j) = J at *
      generalize ps[j] = s at *
      have hJ : J.length ≤ 10000000 := by omega
      clear hl1 hl2 hms
      go_wp2
      go_roundw
      case rel => exact ⟨j + 1, by omega, by rw [HS.out, ← hcat], by go_num, rfl⟩
      case measure => simp [intOf]; omega
    · have e : j = ps.length := by omega
      subst e
      rw [List.take_length]
      go_wp2
      go_ret
      exact ⟨rfl, rfl⟩
end Go.Proofs.YtgbakgaegldomaaGreat

/- strings.Builder: copyCheck and WriteString at a builder that the call has made itself. Conditions: the bytes are fewer than 2^47. -/
namespace Go.Proofs.YtgbakgaegldomaaGreat
open Go Go.RowKit
theorem infoByteB : (Tryz.prog.info? 5).map (fun i => (i.zero, i.size, i.bytes)) = some (some (.int .u8 0), 1, 1) := by kernel_rfl
theorem sizeSb : (Tryz.prog.info? 68).map (·.size) = some 2 := by kernel_rfl
theorem liesSb : liesAt Tryz.prog Tryz.prog.depth 68 (2 / Tryz.prog.cellsOf 68) 0 68 1 = true := by kernel_rfl
abbrev SbAt (B b : Nat) (p : Value) (l : List Value) (w : World) : Prop := Lib.BuilderAt 68 5 B b p l w
abbrev IsSb (B b : Nat) (l : List Value) (w : World) : Prop := Lib.IsBuilder 68 5 B b l w
set_option maxHeartbeats 1000000 in
set_option maxRecDepth 100000 in
theorem sbCheck_used (b : Nat) (w : World) (h0 : w.cell? ⟨b, 0, none⟩ = some (.pointer (some ⟨b, 0, none⟩))) :
    Calls Tryz.prog 74 #[.pointer (some ⟨b, 0, none⟩)] w fun e w' => e = .returned (.tuple #[]) ∧ w' = w := by
  obtain ⟨j, hj, _⟩ := Option.map_eq_some_iff.1 sizeSb
  go_enter Tryz.func74, Tryz.ntmps74
  go_wp2
  rw [Lib.run_neq_ptr_same w _ Tryz.underlying66 hj]
  go_wp2
  go_end0
  exact ⟨rfl, rfl⟩
set_option maxHeartbeats 1000000 in
set_option maxRecDepth 100000 in
theorem sbCheck_fresh (b : Nat) (w : World) (h0 : w.cell? ⟨b, 0, none⟩ = some (.pointer none)) (hsh : w.shape? b = some (68, 2)) (hfz : w.frozen? ⟨b, 0, none⟩ = false) :
    Calls Tryz.prog 74 #[.pointer (some ⟨b, 0, none⟩)] w fun e w' => e = .returned (.tuple #[]) ∧ w' = w.setCell ⟨b, 0, none⟩ (.pointer (some ⟨b, 0, none⟩)) := by
  obtain ⟨j, hj, hjs⟩ := Option.map_eq_some_iff.1 sizeSb
  go_enter Tryz.func74, Tryz.ntmps74
  go_wp2
  rw [Lib.run_to_unsafe w ⟨b, 0, none⟩ Tryz.underlying66 Tryz.underlying149 hj (by rw [hjs]; decide) hsh (Nat.zero_lt_succ 1)]
  simp only [Result.andThen]
  rw [Oper.upon_value]
  go_wp2
  rw [run_callFunc_extern Tryz.func116 (by kernel_rfl) (by kernel_rfl) (by kernel_rfl) (e := Extern.AbiNoEscape.same) (by kernel_rfl)]
  rw [Lib.run_noEscape]
  simp only [Result.andThen]
  rw [Oper.upon_value]
  go_wp2
  rw [Lib.run_from_unsafe w ⟨b, 0, none⟩ Tryz.underlying149 Tryz.underlying66 hj hsh liesSb]
  simp only [Result.andThen]
  rw [Oper.upon_value]
  go_wp2
  go_end0
  exact ⟨rfl, rfl⟩
end Go.Proofs.YtgbakgaegldomaaGreat

/- strings.Builder: what WriteString leaves as it was; rows of pairs behind it. Conditions: the bytes are fewer than 2^47. -/
namespace Go.Proofs.YtgbakgaegldomaaGreat
open Go Go.RowKit
def SbV (B b : Nat) (v : Value) (l : List UInt8) (w : World) : Prop := B ≤ b ∧ (∃ p, (p = .pointer none ∨ p = .pointer (some ⟨b, 0, none⟩)) ∧ w.heap[b]? = some (.cells #[p, v] 68)) ∧ w.ownsRow B 5 1 v l.length (Lib.byteCells l) ∧ v.ownBlock ≠ some b
theorem SbV.is {B b : Nat} {v : Value} {l : List UInt8} {w : World} (h : SbV B b v l w) : IsSb B b (Lib.byteCells l) w := by
  obtain ⟨h1, ⟨p, hp, h2⟩, h3, h4⟩ := h
  have h3' : w.ownsRow B 5 1 v (Lib.byteCells l).length (Lib.byteCells l) := by rw [Lib.byteCells_length]; exact h3
  rcases hp with rfl | rfl
  · exact .inl ⟨h1, v, h2, h3', h4⟩
  · exact .inr ⟨h1, v, h2, h3', h4⟩
theorem SbV.up {B b : Nat} {v : Value} {l : List UInt8} {w w' : World} (h : SbV B b v l w) (hu : Up w w') : SbV B b v l w' := by
  obtain ⟨h1, ⟨p, hp, h2⟩, h3, h4⟩ := h
  exact ⟨h1, ⟨p, hp, box_up hu h2⟩, ownsRow_up h3 hu, h4⟩
theorem SbV.lt {B b : Nat} {v : Value} {l : List UInt8} {w : World} (h : SbV B b v l w) : b < w.heap.size ∧ ∀ k, v.ownBlock = some k → B ≤ k ∧ k < w.heap.size := by
  obtain ⟨h1, ⟨p, hp, h2⟩, h3, h4⟩ := h
  exact ⟨(Array.getElem?_eq_some_iff.1 h2).1, h3.lt⟩
theorem SbV.gr {B b : Nat} {v : Value} {l : List UInt8} {w w' : World} (h : SbV B b v l w) {g : Nat} (hg : w.grownBy w' (some g)) (hl : g < B) : SbV B b v l w' := by
  obtain ⟨h1, ⟨p, hp, h2⟩, h3, h4⟩ := h
  refine ⟨h1, ⟨p, hp, gbox hg h2 (fun e => by cases e; omega)⟩, h3.kept hg ?_, h4⟩
  cases hv : v.ownBlock with
  | none => exact .inl rfl
  | some k => exact .inr fun e => by have := (h3.lt k hv).1; cases e; omega
theorem sbV_new (w : World) : SbV w.heap.size w.heap.size (.slice none 0 0) [] (w.alloc (.cells #[.pointer none, .slice none 0 0] 68)) :=
  ⟨Nat.le_refl _, ⟨_, .inl rfl, (MapKept.heap_alloc w _).1⟩, World.ownsRow_nil _ _ _ _, by simp [Value.ownBlock]⟩
theorem sbCells_app (a : List UInt8) (s : ByteArray) : Lib.byteCells a ++ Lib.strCells s = Lib.byteCells (a ++ s.data.toList) := by simp [Lib.strCells, Lib.byteCells]
set_option maxHeartbeats 2000000 in
set_option maxRecDepth 100000 in
theorem sbW_any (B b : Nat) (v : Value) (l : List UInt8) (s : ByteArray) (w : World) (h : SbV B b v l w) (hlen : l.length + s.size ≤ 140737488355328) (hBw : B ≤ w.heap.size) :
    Calls Tryz.prog 31 #[.pointer (some ⟨b, 0, none⟩), .string s] w fun e w' => e = .returned (.tuple #[.int .i64 s.size, .nilIface]) ∧ (∃ v', SbV B b v' (l ++ s.data.toList) w') ∧ Below B w w' ∧ w.heap.size ≤ w'.heap.size ∧ ∀ k, k < w.heap.size → k ≠ b → v.ownBlock ≠ some k → w'.heap[k]? = w.heap[k]? := by
  obtain ⟨i0, hi, hz0, hz1, hz2⟩ := info_parts infoByteB
  obtain ⟨hB, ⟨p, hp, hbk⟩, hown, hne⟩ := h
  have hlt : b < w.heap.size := (Array.getElem?_eq_some_iff.1 hbk).1
  have hK : ∀ wx, wx = w → Calls Tryz.prog 74 #[.pointer (some ⟨b, 0, none⟩)] wx (fun e w' => e = .returned (.tuple #[]) ∧ w'.heap[b]? = some (.cells #[.pointer (some ⟨b, 0, none⟩), v] 68) ∧ w.grownBy w' (some b) ∧ Below B w w' ∧ w'.heap.size = w.heap.size) := by
    rintro wx rfl
    rcases hp with rfl | rfl
    · have hA : SbAt B b (.pointer none) (Lib.byteCells l) wx := ⟨hB, v, hbk, by rw [Lib.byteCells_length]; exact hown, hne⟩
      refine (sbCheck_fresh b wx hA.cell0 hA.shape hA.frozen0).mono ?_
      rintro e w' ⟨rfl, rfl⟩
      refine ⟨rfl, ?_, grownBy_set (grownBy_refl _ _) _ _, (Below.refl B wx).setCell (p := ⟨b, 0, none⟩) hB _, by simp [World.setCell]⟩
      have := box_set hbk 0 (.pointer (some ⟨b, 0, none⟩))
      simpa using this
    · have hA : SbAt B b (.pointer (some ⟨b, 0, none⟩)) (Lib.byteCells l) wx := ⟨hB, v, hbk, by rw [Lib.byteCells_length]; exact hown, hne⟩
      refine (sbCheck_used b wx hA.cell0).mono ?_
      rintro e w' ⟨rfl, rfl⟩
      exact ⟨rfl, hbk, grownBy_refl _ _, Below.refl B _, rfl⟩
  have hnb : v.ownBlock = none ∨ v.ownBlock ≠ some b := .inr hne
  clear hp hbk
  go_enter Tryz.func31, Tryz.ntmps31
  go_wp2_with fail
  (with_reducible refine (hK _ rfl).mono ?_)
  rintro e w1 ⟨rfl, hbk, hg1, hb1, hsz1⟩
  have hown := hown.kept hg1 hnb
  have c0 : w1.cell? ⟨b, 0, none⟩ = some (.pointer (some ⟨b, 0, none⟩)) := by rw [Lib.cell_of_heap hbk]; rfl
  have c1 : w1.cell? ⟨b, 1, none⟩ = some v := by rw [Lib.cell_of_heap hbk]; rfl
  have HW := Lib.hid (And.intro hg1 (And.intro hb1 hsz1))
  clear hK hg1
  go_wp2_with (at_builtin; refine Lib.wpList_append_own_string _ rfl _ _ 22 9 rfl B 5 i0 Tryz.underlying22 Tryz.underlying9 hi hz0 hz1 hz2 _ _ _ rfl hown s rfl ?c3 ?c4 ?c5 ?_)
  case c3 => unfold maxLen; omega
  case c4 => omega
  case c5 => omega
  intro v' w2 hown' hgrow _
  have hlt1 : b < w1.heap.size := by omega
  have hb2 : w2.heap[b]? = some (.cells #[.pointer (some ⟨b, 0, none⟩), v] 68 (0, 0)) := by
    rw [hgrow.block b hlt1 (fun e => hne e.symm)]
    exact hbk
  have d0 : w2.cell? ⟨b, 0, none⟩ = some (.pointer (some ⟨b, 0, none⟩)) := by rw [Lib.cell_of_heap hb2]; rfl
  have d1 : w2.cell? ⟨b, 1, none⟩ = some v := by rw [Lib.cell_of_heap hb2]; rfl
  have f1 : w2.frozen? ⟨b, 1, none⟩ = false := Lib.frozen_of_heap hb2 1
  obtain ⟨ao, n', cap, rfl⟩ : ∃ ao n' cap, v' = .slice ao n' cap := by
    rcases hown'.2 with ⟨hv, _⟩ | ⟨g, cap, cur, hv, _⟩
    · exact ⟨_, _, _, hv⟩
    · exact ⟨_, _, _, hv⟩
  have HG := Lib.hid hgrow
  have HV := Lib.hid (And.intro hown hne)
  clear hgrow hsz1 hb1
  go_wp2
  go_ret2
  rw [sbCells_app] at hown'
  have hlen2 : (l ++ s.data.toList).length = l.length + s.size := by rw [List.length_append]; rfl
  refine ⟨rfl, ⟨.slice ao n' cap, ?_⟩, ?_, ?_, ?_⟩
  · obtain ⟨q1, u, q2, q3, q4⟩ := Lib.BuilderAt.put (T := 68) (e := 5) hB hb2 (bs' := Lib.byteCells (l ++ s.data.toList)) (v' := .slice ao n' cap) (by rw [Lib.byteCells_length, hlen2]; exact hown') (by decide)
    have hu : u = .slice ao n' cap := by
      have hx := box_set hb2 1 (.slice ao n' cap)
      have := q2.symm.trans hx
      simpa using this
    subst hu
    exact ⟨q1, ⟨_, .inr rfl, q2⟩, by rw [Lib.byteCells_length] at q3; exact q3, q4⟩
  · exact (HW.out.2.1.grown HG.out (by have := HW.out.2.1.size; omega) (fun k hk => (HV.out.1.lt k hk).1)).setCell (p := ⟨b, 1, none⟩) hB _
  · have h1 := HG.out.size; have h2 := HW.out.2.2; simp [World.setCell]; omega
  · intro k hk hkb hkv
    have h2 := HW.out.2.2
    rw [Below.heap_setCell _ _ _ _ (fun e => hkb (by simpa using e))]
    rw [HG.out.block k (by omega) (fun e => hkv e.symm)]
    exact HW.out.1.block k hk (fun e => hkb (by cases e; rfl))
theorem sbS_any (B b : Nat) (v : Value) (l : List UInt8) (w : World) (h : SbV B b v l w) (hB : B ≤ w.heap.size) :
    Calls Tryz.prog 33 #[.pointer (some ⟨b, 0, none⟩)] w (fun e w' => e = .returned (.string (bs l)) ∧ Below B w w') :=
  (Tryz.Builder_String_any_f B b l w (Lib.IsBuilderF.of h.is) hB).mono fun e w' ⟨he, h1, h2⟩ => ⟨he, h2⟩
theorem RdP.frame {lo : Nat} {w w' : World} {v : Value} {ps : List PairD} (h : RdP lo w v ps) (hz : w.heap.size ≤ w'.heap.size) (hf : ∀ k, lo ≤ k → k < w.heap.size → w'.heap[k]? = w.heap[k]?) : RdP lo w' v ps := by
  obtain ⟨a, cap, h1, h2, h2', h2'', h3⟩ := h
  refine ⟨a, cap, h1, h2, h2', h2'', fun hp => ?_⟩
  obtain ⟨b, off, e1, e2, e4, e5⟩ := h3 hp
  have hc : ∀ i, w'.cell? ⟨b, i, none⟩ = w.cell? ⟨b, i, none⟩ := fun i => by unfold World.cell?; rw [hf b e2 e4]
  exact ⟨b, off, e1, e2, Nat.lt_of_lt_of_le e4 hz, fun i p hi => ⟨(hc _).trans (e5 i p hi).1, (hc _).trans (e5 i p hi).2⟩⟩
end Go.Proofs.YtgbakgaegldomaaGreat

/- WriteAll of the program, for what is known of any kind and any parts. Conditions: the parts are at most 2^20, each of at most 2^20 bytes. -/
namespace Go.Proofs.YtgbakgaegldomaaGreat
open Go Go.RowKit
theorem alloc_sz (w : World) (o : Obj) : (w.alloc o).heap.size = w.heap.size + 1 := by simp
def RelWi (T : Option (List UInt8)) (ps : List ByteArray) (b : Nat) (w1 : World) (i : Value) (wr : World) : Prop := ∃ (j : Nat) (x : WrD) (v u : Value) (out' : List UInt8),
  i = .int .i64 j ∧ WaAt T ps j true x out' ∧ WrAt b x v wr ∧ RdP 0 wr v x.k.ps ∧ SbV (b + 1) (b + 1) u out' wr ∧ Up w1 wr
set_option maxRecDepth 100000 in
set_option maxHeartbeats 8000000 in
theorem waI_any (k : KnD) (v vp : Value) (lo : Nat) (ps : List ByteArray) (w : World) (hl : -9223372036854775808 ≤ k.set.lit ∧ k.set.lit ≤ 9223372036854775807) (hr : RdP lo w v k.ps) (hps : k.ps.length ≤ 1048576) (hp : ArgS w vp ps) (hn : ps.length ≤ 1048576) (hsz : ∀ s ∈ ps, s.size ≤ 1048576) :
    Calls Tryz.prog 7  #[kV k v, vp] w (Same (optS (waG k ps)) w) := by
  have cN := fun wq hr => nwI_any k v lo wq hl hr hps
  have hrt := fun (wq : World) (hu : Up w wq) => hr.up hu
  have hpt := fun (wq : World) (hu : Up w wq) => hp.up hu
  have hS := WaAt.start k ps
  obtain ⟨a, cap, rfl, -, -, -, -⟩ := id hr
  obtain ⟨ap, cp, rfl, hpm, -, -⟩ := id hp
  obtain ⟨T, hT⟩ : ∃ T, Hid (T = waG k ps) := ⟨_, rfl⟩
  rw [← hT.out] at hS ⊢
  unfold maxLen at hpm
  simp only [kV] at *
  go_enter Tryz.func7, Tryz.ntmps7
  go_wp2_with fail
  (with_reducible refine (cN _ (hrt _ (by (repeat (first | with_reducible exact Up.refl _ | with_reducible assumption | with_reducible refine Up.set ?_ (by first | exact Nat.le_refl _ | (simp only []; omega) | (simp; omega)) _ | with_reducible refine Up.alloc ?_ _ | with_reducible refine Up.drew ?_ | refine Up.trans ?_ (by with_reducible assumption)))))).mono ?_); rintro e w1 hP; obtain ⟨v1, rfl, ho1, U1⟩ := nwP_all hP
  obtain ⟨a1, c1, rfl⟩ := ownsRow_shape ho1
  have hU1 : Up w w1 := by (repeat (first | with_reducible exact Up.refl _ | with_reducible assumption | with_reducible refine Up.set ?_ (by first | exact Nat.le_refl _ | (simp only []; omega) | (simp; omega)) _ | with_reducible refine Up.alloc ?_ _ | with_reducible refine Up.drew ?_ | refine Up.trans ?_ (by with_reducible assumption)))
  generalize nwX k = x0 at *
  generalize validK k = ok0 at *
  clear hP U1 cN hr hp
  unfold wrV
  cases ok0
  · have HT0 := Lib.hid (hS.no rfl).2
    clear hS
    go_wp2_with fail
    go_ret2
    refine ⟨by rw [HT0.out]; rfl, ?_⟩
    (repeat (first | with_reducible exact Up.refl _ | with_reducible assumption | with_reducible refine Up.set ?_ (by first | exact Nat.le_refl _ | (simp only []; omega) | (simp; omega)) _ | with_reducible refine Up.alloc ?_ _ | with_reducible refine Up.drew ?_ | refine Up.trans ?_ (by with_reducible assumption)))
  have hS := Lib.hid hS
  go_wp2_with fail
  have hX1 : WrAt w1.heap.size x0 (.slice a1 x0.k.ps.length c1) (w1.alloc (.cells #[.int .i64 x0.k.set.ord, .int .i64 x0.k.set.lit, .int .i64 x0.k.set.most, .slice a1 x0.k.ps.length c1, .int .i64 x0.k.base, .int .i64 x0.k.last, .string (bs x0.pend), .string (bs x0.bits), .bool x0.beg] 37)) := (MapKept.heap_alloc w1 _).1
  have hUa : Up w1 (w1.alloc (.cells #[.int .i64 x0.k.set.ord, .int .i64 x0.k.set.lit, .int .i64 x0.k.set.most, .slice a1 x0.k.ps.length c1, .int .i64 x0.k.base, .int .i64 x0.k.last, .string (bs x0.pend), .string (bs x0.bits), .bool x0.beg] 37)) := (Up.refl _).alloc _
  have hUb : Up (w1.alloc (.cells #[.int .i64 x0.k.set.ord, .int .i64 x0.k.set.lit, .int .i64 x0.k.set.most, .slice a1 x0.k.ps.length c1, .int .i64 x0.k.base, .int .i64 x0.k.last, .string (bs x0.pend), .string (bs x0.bits), .bool x0.beg] 37)) ((w1.alloc (.cells #[.int .i64 x0.k.set.ord, .int .i64 x0.k.set.lit, .int .i64 x0.k.set.most, .slice a1 x0.k.ps.length c1, .int .i64 x0.k.base, .int .i64 x0.k.last, .string (bs x0.pend), .string (bs x0.bits), .bool x0.beg] 37)).alloc (.cells #[.pointer none, .slice none 0 0] 68)) := (Up.refl _).alloc _
  have hZ1 : (w1.alloc (.cells #[.int .i64 x0.k.set.ord, .int .i64 x0.k.set.lit, .int .i64 x0.k.set.most, .slice a1 x0.k.ps.length c1, .int .i64 x0.k.base, .int .i64 x0.k.last, .string (bs x0.pend), .string (bs x0.bits), .bool x0.beg] 37)).heap.size = w1.heap.size + 1 := alloc_sz _ _
  have hB1 := sbV_new (w1.alloc (.cells #[.int .i64 x0.k.set.ord, .int .i64 x0.k.set.lit, .int .i64 x0.k.set.most, .slice a1 x0.k.ps.length c1, .int .i64 x0.k.base, .int .i64 x0.k.last, .string (bs x0.pend), .string (bs x0.bits), .bool x0.beg] 37))
  rw [hZ1] at hB1
  have hr1 : RdP 0 ((w1.alloc (.cells #[.int .i64 x0.k.set.ord, .int .i64 x0.k.set.lit, .int .i64 x0.k.set.most, .slice a1 x0.k.ps.length c1, .int .i64 x0.k.base, .int .i64 x0.k.last, .string (bs x0.pend), .string (bs x0.bits), .bool x0.beg] 37)).alloc (.cells #[.pointer none, .slice none 0 0] 68)) (.slice a1 x0.k.ps.length c1) x0.k.ps := (((RdP.of_own ho1).low (Nat.zero_le _)).up hUa).up hUb
  have HL0 := Lib.hid (And.intro (hX1.up hUb) (And.intro (hUa.trans hUb) (And.intro hr1 hB1)))
  clear hX1 hUa hUb hr1 hB1 ho1 hZ1
  generalize (w1.alloc (.cells #[.int .i64 x0.k.set.ord, .int .i64 x0.k.set.lit, .int .i64 x0.k.set.most, .slice a1 x0.k.ps.length c1, .int .i64 x0.k.base, .int .i64 x0.k.last, .string (bs x0.pend), .string (bs x0.bits), .bool x0.beg] 37)).alloc (.cells #[.pointer none, .slice none 0 0] 68) = W at *
  go_loopw [22] (fun i wr => RelWi T ps w1.heap.size w1 i wr) (fun i _ => ps.length - (intOf i).toNat)
  case atStart => exact ⟨0, x0, _, _, [], rfl, hS.out, HL0.out.1, HL0.out.2.2.1, HL0.out.2.2.2, HL0.out.2.1⟩
  case round =>
    clear HL0 hS
    obtain ⟨j, x, v, u, out', rfl, hM, hX, hrx, hSb, hU⟩ := hrel
    have hUw := hU1.trans hU
    obtain ⟨hb1, hb2, hb3, hb4⟩ := hM.bd
    have hol := hM.len
    have hj := hM.le
    have hos := bs_size out'
    have hsl1 := hSb.lt.1
    obtain ⟨av, cv, rfl, -⟩ := id hrx
    obtain ⟨hbk, r0, r1, r2, r3, r4, r5, r6, r7, r8⟩ := hX.cells
    by_cases hlt : j < ps.length
    · obtain ⟨gb, off, rfl, hgb, hgk, -, hnc, hcm⟩ := (hpt _ hUw).at hlt
      unfold maxLen at hcm
      have hs1 := hsz _ (List.getElem_mem hlt)
      obtain ⟨hN, hNl⟩ := hM.next hlt
      have HN := Lib.hid hN
      have hsl : (ps[j]).data.toList.length = (ps[j]).size := rfl
      have cI1 : ∀ wq v, RdP 0 wq v x.k.ps → Calls Tryz.prog 12  #[wrV x v, .string (ps[j])] wq (WdPost (wdO x (ps[j]).data.toList) wq) := fun wq v h => wdI_any x v 0 (ps[j]).data.toList wq hb1 h hb2 hb3 hb4 (by omega)
      clear hN hM hsl
      generalize wdO x (ps[j]).data.toList = X at *
      generalize ps[j] = s1 at *
      have hyl := bs_size (oBy X)
      unfold wrV at cI1
      have HSb := Lib.hid hSb
      have HX := Lib.hid hX
      clear hSb hX
      have hgw : gb < wr.heap.size := hgb
      go_wp2_with fail
      (with_reducible refine (cI1 _ _ hrx).mono ?_); rintro e w5 hP; obtain ⟨v5, rfl, ho5, U5⟩ := wdP_all hP
      obtain ⟨a5, c5, rfl⟩ := ownsRow_shape ho5
      clear hP cI1 hrx
      have hXq := HX.out.up U5
      generalize oWr X = y1 at *
      generalize oBy X = by1 at *
      generalize X.isSome = ok1 at *
      have hK2 : WrAt w1.heap.size y1 (.slice a5 y1.k.ps.length c5) (WrW w5 w1.heap.size y1 (.slice a5 y1.k.ps.length c5)) := WrAt.store hXq y1 _
      have hr9 : RdP wr.heap.size (WrW w5 w1.heap.size y1 (.slice a5 y1.k.ps.length c5)) (.slice a5 y1.k.ps.length c5) y1.k.ps := by
        unfold WrW KnW
        (repeat (with_reducible refine RdP.set ?_ hbk _ _)); exact RdP.of_own ho5
      have hU9 : Up w1 (WrW w5 w1.heap.size y1 (.slice a5 y1.k.ps.length c5)) := WrW.up (hU.trans U5) (Nat.le_refl _) y1 _
      have hgw : w5.grownBy (WrW w5 w1.heap.size y1 (.slice a5 y1.k.ps.length c5)) (some w1.heap.size) := by
        unfold WrW KnW
        (repeat (with_reducible refine grownBy_set ?_ _ _)); exact grownBy_refl _ _
      have hS9 := (HSb.out.up U5).gr hgw (Nat.lt_succ_self _)
      have HH := Lib.hid (And.intro hK2 (And.intro hr9 (And.intro hU9 (And.intro hS9 HSb.out.lt))))
      have hz9 := hU9.size
      obtain ⟨hbq, q0, q1, q2, q3, q4, q5, q6, q7, q8⟩ := hXq.cells
      have hfr := box_free hXq
      clear hK2 hr9 hU9 hXq ho5 r0 r1 r2 r3 r4 r5 r6 r7 r8 hgw HX hS9 HSb
      unfold wrV
      go_simp
      iterate 20 go_step
      rw [show (((((((((w5.setCell ⟨w1.heap.size, 0, none⟩ (.int .i64 y1.k.set.ord)).setCell ⟨w1.heap.size, 1, none⟩ (.int .i64 y1.k.set.lit)).setCell ⟨w1.heap.size, 2, none⟩ (.int .i64 y1.k.set.most)).setCell ⟨w1.heap.size, 3, none⟩ (.slice a5 y1.k.ps.length c5)).setCell ⟨w1.heap.size, 4, none⟩ (.int .i64 y1.k.base)).setCell ⟨w1.heap.size, 5, none⟩ (.int .i64 y1.k.last)).setCell ⟨w1.heap.size, 6, none⟩ (.string (bs y1.pend))).setCell ⟨w1.heap.size, 7, none⟩ (.string (bs y1.bits))).setCell ⟨w1.heap.size, 8, none⟩ (.bool y1.beg)) = WrW w5 w1.heap.size y1 (.slice a5 y1.k.ps.length c5) from rfl]
      generalize WrW w5 w1.heap.size y1 (.slice a5 y1.k.ps.length c5) = W9 at *
      clear q0 q1 q2 q3 q4 q5 q6 q7 q8 hfr hbq U5
      cases ok1
      · have HT0 := Lib.hid (HN.out.no rfl).2
        go_wp2_with fail
        go_ret2
        exact ⟨by rw [HT0.out]; rfl, hU1.trans HH.out.2.2.1⟩
      · have hlt2 := HH.out.2.2.2.1.lt.1
        have cW := sbW_any (w1.heap.size + 1) (w1.heap.size + 1) u out' (bs by1) W9 HH.out.2.2.2.1 (by omega) (by omega)
        go_wp2_with fail
        (with_reducible refine cW.mono ?_); rintro e w10 ⟨rfl, ⟨u', hS'⟩, hb10, hz10, hf10⟩
        rw [bs_data] at hS'
        have hX' : WrAt w1.heap.size y1 (.slice a5 y1.k.ps.length c5) w10 := (hb10.block _ (Nat.lt_succ_self _)).trans HH.out.1
        have hr' : RdP 0 w10 (.slice a5 y1.k.ps.length c5) y1.k.ps := (RdP.frame HH.out.2.1 hz10 (fun k h1 h2 => hf10 k h2 (by omega) (fun e => by have := (HH.out.2.2.2.2.2 k e).2; omega))).low (Nat.zero_le _)
        have hU' : Up w1 w10 := Below.trans HH.out.2.2.1 (hb10.mono (Nat.le_succ _))
        have HF := Lib.hid (And.intro hX' (And.intro hr' (And.intro hU' hS')))
        clear hX' hr' hU' hS' hb10 hf10 cW
        go_wp2_with fail
        go_roundw
        case rel => exact ⟨j + 1, y1, _, u', out' ++ by1, by go_num, HN.out, HF.out.1, HF.out.2.1, HF.out.2.2.2, HF.out.2.2.1⟩
        case measure => simp [intOf]; omega
    · obtain ⟨h1, h2, h3⟩ := hM.fin (by omega)
      have cC := fun wq h => wcI_any x (.slice av x.k.ps.length cv) 0 wq hb1 h hb2 hb3 hb4
      rw [h1] at cC
      have hcs := bs_size x.close
      have hcat : bs out' ++ bs x.close = bs (out' ++ x.close) := bs_app _ _
      have HT2 := Lib.hid h2
      clear h1 h2 hM
      unfold optS at cC
      simp only [Option.getD_some, Option.isSome_some] at cC
      unfold wrV at cC
      generalize x.close = cl at *
      have HSb := Lib.hid hSb
      clear hSb
      go_wp2_with fail
      (with_reducible refine (cC _ hrx).mono ?_); rintro e w7 ⟨rfl, U7⟩
      have hz7 := U7.size
      go_wp2_with fail
      (with_reducible refine (sbS_any _ _ u out' w7 (HSb.out.up U7) (by omega)).mono ?_); rintro e w8 ⟨rfl, hb8⟩
      have hU8 : Up w w8 := hU1.trans (Below.trans (hU.trans U7) (hb8.mono (Nat.le_succ _)))
      clear hb8
      go_wp2_with fail
      go_ret2
      exact ⟨by rw [HT2.out]; rfl, hU8⟩
end Go.Proofs.YtgbakgaegldomaaGreat

